/-
  The environment: the types and functions of the program as trees. No condition.
-/
import Derived.Test.YtdkekhaamhphcaaGreatDoorVxX
import Derived.Test.YtdkekhaamhphcaaGreatDoorProg
import Derived.KernelRfl
namespace Go.Proofs.YtdkekhaamhphcaaGreatDoor
open Go.Vx
set_option maxRecDepth 100000
theorem ty0 : TyOk Tryz.prog 0 ⟨Tryz.t0.desc, Tryz.t0, none⟩ := ty_plain (by kernel_rfl) Tryz.underlying0
theorem ty1 : TyOk Tryz.prog 1 ⟨Tryz.t1.desc, Tryz.t1, none⟩ := ty_plain (by kernel_rfl) Tryz.underlying1
theorem ty2 : TyOk Tryz.prog 2 ⟨Tryz.t2.desc, Tryz.t2, none⟩ := ty_plain (by kernel_rfl) Tryz.underlying2
theorem ty3 : TyOk Tryz.prog 3 ⟨Tryz.t3.desc, Tryz.t3, none⟩ := ty_plain (by kernel_rfl) Tryz.underlying3
theorem ty4 : TyOk Tryz.prog 4 ⟨Tryz.t4.desc, Tryz.t4, none⟩ := ty_plain (by kernel_rfl) Tryz.underlying4
theorem ty5 : TyOk Tryz.prog 5 ⟨Tryz.t5.desc, Tryz.t5, none⟩ := ty_plain (by kernel_rfl) Tryz.underlying5
theorem ty6 : TyOk Tryz.prog 6 ⟨Tryz.t5.desc, Tryz.t6, none⟩ := ty_plain (by kernel_rfl) Tryz.underlying6
theorem ty7 : TyOk Tryz.prog 7 ⟨Tryz.t7.desc, Tryz.t7, some [.i, .i, .b, .i]⟩ := ty_sk (by kernel_rfl) Tryz.underlying7 (by kernel_rfl)
theorem ty8 : TyOk Tryz.prog 8 ⟨Tryz.t7.desc, Tryz.t8, some [.i, .i, .b, .i]⟩ := ty_sk (by kernel_rfl) Tryz.underlying8 (by kernel_rfl)
theorem ty9 : TyOk Tryz.prog 9 ⟨Tryz.t9.desc, Tryz.t9, none⟩ := ty_plain (by kernel_rfl) Tryz.underlying9
theorem ty10 : TyOk Tryz.prog 10 ⟨Tryz.t9.desc, Tryz.t10, none⟩ := ty_plain (by kernel_rfl) Tryz.underlying10
theorem ty11 : TyOk Tryz.prog 11 ⟨Tryz.t9.desc, Tryz.t11, none⟩ := ty_plain (by kernel_rfl) Tryz.underlying11
theorem ty12 : TyOk Tryz.prog 12 ⟨Tryz.t12.desc, Tryz.t12, none⟩ := ty_plain (by kernel_rfl) Tryz.underlying12
theorem ty13 : TyOk Tryz.prog 13 ⟨Tryz.t13.desc, Tryz.t13, none⟩ := ty_plain (by kernel_rfl) Tryz.underlying13
theorem ty14 : TyOk Tryz.prog 14 ⟨Tryz.t13.desc, Tryz.t14, none⟩ := ty_plain (by kernel_rfl) Tryz.underlying14
theorem ty15 : TyOk Tryz.prog 15 ⟨Tryz.t15.desc, Tryz.t15, none⟩ := ty_plain (by kernel_rfl) Tryz.underlying15
theorem ty16 : TyOk Tryz.prog 16 ⟨Tryz.t16.desc, Tryz.t16, none⟩ := ty_plain (by kernel_rfl) Tryz.underlying16
theorem ty17 : TyOk Tryz.prog 17 ⟨Tryz.t17.desc, Tryz.t17, none⟩ := ty_plain (by kernel_rfl) Tryz.underlying17
theorem ty18 : TyOk Tryz.prog 18 ⟨Tryz.t18.desc, Tryz.t18, none⟩ := ty_plain (by kernel_rfl) Tryz.underlying18
theorem ty19 : TyOk Tryz.prog 19 ⟨Tryz.t18.desc, Tryz.t19, none⟩ := ty_plain (by kernel_rfl) Tryz.underlying19
theorem ty20 : TyOk Tryz.prog 20 ⟨Tryz.t20.desc, Tryz.t20, none⟩ := ty_plain (by kernel_rfl) Tryz.underlying20
theorem ty21 : TyOk Tryz.prog 21 ⟨Tryz.t21.desc, Tryz.t21, none⟩ := ty_plain (by kernel_rfl) Tryz.underlying21
theorem ty22 : TyOk Tryz.prog 22 ⟨Tryz.t22.desc, Tryz.t22, none⟩ := ty_plain (by kernel_rfl) Tryz.underlying22
theorem ty23 : TyOk Tryz.prog 23 ⟨Tryz.t23.desc, Tryz.t23, some [.i, .s, .s]⟩ := ty_sk (by kernel_rfl) Tryz.underlying23 (by kernel_rfl)
theorem ty24 : TyOk Tryz.prog 24 ⟨Tryz.t23.desc, Tryz.t24, some [.i, .s, .s]⟩ := ty_sk (by kernel_rfl) Tryz.underlying24 (by kernel_rfl)
theorem ty25 : TyOk Tryz.prog 25 ⟨Tryz.t3.desc, Tryz.t25, none⟩ := ty_plain (by kernel_rfl) Tryz.underlying25
theorem ty26 : TyOk Tryz.prog 26 ⟨Tryz.t26.desc, Tryz.t26, none⟩ := ty_plain (by kernel_rfl) Tryz.underlying26
theorem ty27 : TyOk Tryz.prog 27 ⟨Tryz.t27.desc, Tryz.t27, none⟩ := ty_plain (by kernel_rfl) Tryz.underlying27
theorem ty28 : TyOk Tryz.prog 28 ⟨Tryz.t28.desc, Tryz.t28, none⟩ := ty_plain (by kernel_rfl) Tryz.underlying28
theorem ty29 : TyOk Tryz.prog 29 ⟨Tryz.t29.desc, Tryz.t29, none⟩ := ty_plain (by kernel_rfl) Tryz.underlying29
theorem ty30 : TyOk Tryz.prog 30 ⟨Tryz.t30.desc, Tryz.t30, none⟩ := ty_plain (by kernel_rfl) Tryz.underlying30
theorem ty31 : TyOk Tryz.prog 31 ⟨Tryz.t30.desc, Tryz.t31, none⟩ := ty_plain (by kernel_rfl) Tryz.underlying31
theorem ty32 : TyOk Tryz.prog 32 ⟨Tryz.t32.desc, Tryz.t32, none⟩ := ty_plain (by kernel_rfl) Tryz.underlying32
theorem ty33 : TyOk Tryz.prog 33 ⟨Tryz.t33.desc, Tryz.t33, none⟩ := ty_plain (by kernel_rfl) Tryz.underlying33
theorem ty34 : TyOk Tryz.prog 34 ⟨Tryz.t34.desc, Tryz.t34, some [.i, .i]⟩ := ty_sk (by kernel_rfl) Tryz.underlying34 (by kernel_rfl)
theorem ty35 : TyOk Tryz.prog 35 ⟨Tryz.t34.desc, Tryz.t35, some [.i, .i]⟩ := ty_sk (by kernel_rfl) Tryz.underlying35 (by kernel_rfl)
theorem ty36 : TyOk Tryz.prog 36 ⟨Tryz.t36.desc, Tryz.t36, none⟩ := ty_plain (by kernel_rfl) Tryz.underlying36
theorem ty37 : TyOk Tryz.prog 37 ⟨Tryz.t37.desc, Tryz.t37, none⟩ := ty_plain (by kernel_rfl) Tryz.underlying37
theorem ty38 : TyOk Tryz.prog 38 ⟨Tryz.t38.desc, Tryz.t38, none⟩ := ty_plain (by kernel_rfl) Tryz.underlying38
theorem ty39 : TyOk Tryz.prog 39 ⟨Tryz.t39.desc, Tryz.t39, none⟩ := ty_plain (by kernel_rfl) Tryz.underlying39
theorem ty40 : TyOk Tryz.prog 40 ⟨Tryz.t40.desc, Tryz.t40, some [.i, .i, .i, .i, .i, .i, .i, .i]⟩ := ty_sk (by kernel_rfl) Tryz.underlying40 (by kernel_rfl)
theorem ty41 : TyOk Tryz.prog 41 ⟨Tryz.t40.desc, Tryz.t41, some [.i, .i, .i, .i, .i, .i, .i, .i]⟩ := ty_sk (by kernel_rfl) Tryz.underlying41 (by kernel_rfl)
theorem ty42 : TyOk Tryz.prog 42 ⟨Tryz.t42.desc, Tryz.t42, none⟩ := ty_plain (by kernel_rfl) Tryz.underlying42
theorem ty43 : TyOk Tryz.prog 43 ⟨Tryz.t43.desc, Tryz.t43, none⟩ := ty_plain (by kernel_rfl) Tryz.underlying43
theorem ty44 : TyOk Tryz.prog 44 ⟨Tryz.t44.desc, Tryz.t44, none⟩ := ty_plain (by kernel_rfl) Tryz.underlying44
theorem ty45 : TyOk Tryz.prog 45 ⟨Tryz.t45.desc, Tryz.t45, none⟩ := ty_plain (by kernel_rfl) Tryz.underlying45
theorem ty46 : TyOk Tryz.prog 46 ⟨Tryz.t46.desc, Tryz.t46, none⟩ := ty_plain (by kernel_rfl) Tryz.underlying46
theorem ty47 : TyOk Tryz.prog 47 ⟨Tryz.t47.desc, Tryz.t47, none⟩ := ty_plain (by kernel_rfl) Tryz.underlying47
theorem ty48 : TyOk Tryz.prog 48 ⟨Tryz.t47.desc, Tryz.t48, none⟩ := ty_plain (by kernel_rfl) Tryz.underlying48
theorem ty49 : TyOk Tryz.prog 49 ⟨Tryz.t49.desc, Tryz.t49, none⟩ := ty_plain (by kernel_rfl) Tryz.underlying49
theorem ty50 : TyOk Tryz.prog 50 ⟨Tryz.t50.desc, Tryz.t50, none⟩ := ty_plain (by kernel_rfl) Tryz.underlying50
theorem ty51 : TyOk Tryz.prog 51 ⟨Tryz.t51.desc, Tryz.t51, none⟩ := ty_plain (by kernel_rfl) Tryz.underlying51
theorem ty52 : TyOk Tryz.prog 52 ⟨Tryz.t52.desc, Tryz.t52, none⟩ := ty_plain (by kernel_rfl) Tryz.underlying52
theorem ty53 : TyOk Tryz.prog 53 ⟨Tryz.t53.desc, Tryz.t53, none⟩ := ty_plain (by kernel_rfl) Tryz.underlying53
theorem ty54 : TyOk Tryz.prog 54 ⟨Tryz.t54.desc, Tryz.t54, none⟩ := ty_plain (by kernel_rfl) Tryz.underlying54
theorem ty55 : TyOk Tryz.prog 55 ⟨Tryz.t55.desc, Tryz.t55, none⟩ := ty_plain (by kernel_rfl) Tryz.underlying55
theorem ty56 : TyOk Tryz.prog 56 ⟨Tryz.t56.desc, Tryz.t56, none⟩ := ty_plain (by kernel_rfl) Tryz.underlying56
theorem ty57 : TyOk Tryz.prog 57 ⟨Tryz.t57.desc, Tryz.t57, none⟩ := ty_plain (by kernel_rfl) Tryz.underlying57
theorem ty58 : TyOk Tryz.prog 58 ⟨Tryz.t58.desc, Tryz.t58, none⟩ := ty_plain (by kernel_rfl) Tryz.underlying58
theorem ty59 : TyOk Tryz.prog 59 ⟨Tryz.t59.desc, Tryz.t59, none⟩ := ty_plain (by kernel_rfl) Tryz.underlying59
theorem ty60 : TyOk Tryz.prog 60 ⟨Tryz.t60.desc, Tryz.t60, none⟩ := ty_plain (by kernel_rfl) Tryz.underlying60
theorem ty61 : TyOk Tryz.prog 61 ⟨Tryz.t61.desc, Tryz.t61, none⟩ := ty_plain (by kernel_rfl) Tryz.underlying61
theorem ty62 : TyOk Tryz.prog 62 ⟨Tryz.t62.desc, Tryz.t62, none⟩ := ty_plain (by kernel_rfl) Tryz.underlying62
theorem ty63 : TyOk Tryz.prog 63 ⟨Tryz.t63.desc, Tryz.t63, some [.i, .i, .s]⟩ := ty_sk (by kernel_rfl) Tryz.underlying63 (by kernel_rfl)
theorem ty64 : TyOk Tryz.prog 64 ⟨Tryz.t63.desc, Tryz.t64, some [.i, .i, .s]⟩ := ty_sk (by kernel_rfl) Tryz.underlying64 (by kernel_rfl)
theorem ty65 : TyOk Tryz.prog 65 ⟨Tryz.t65.desc, Tryz.t65, none⟩ := ty_plain (by kernel_rfl) Tryz.underlying65
theorem ty66 : TyOk Tryz.prog 66 ⟨Tryz.t66.desc, Tryz.t66, none⟩ := ty_plain (by kernel_rfl) Tryz.underlying66
theorem ty67 : TyOk Tryz.prog 67 ⟨Tryz.t67.desc, Tryz.t67, none⟩ := ty_plain (by kernel_rfl) Tryz.underlying67
theorem ty68 : TyOk Tryz.prog 68 ⟨Tryz.t68.desc, Tryz.t68, none⟩ := ty_plain (by kernel_rfl) Tryz.underlying68
theorem ty69 : TyOk Tryz.prog 69 ⟨Tryz.t69.desc, Tryz.t69, none⟩ := ty_plain (by kernel_rfl) Tryz.underlying69
theorem ty70 : TyOk Tryz.prog 70 ⟨Tryz.t69.desc, Tryz.t70, none⟩ := ty_plain (by kernel_rfl) Tryz.underlying70
theorem ty71 : TyOk Tryz.prog 71 ⟨Tryz.t71.desc, Tryz.t71, none⟩ := ty_plain (by kernel_rfl) Tryz.underlying71
theorem ty72 : TyOk Tryz.prog 72 ⟨Tryz.t72.desc, Tryz.t72, none⟩ := ty_plain (by kernel_rfl) Tryz.underlying72
theorem ty73 : TyOk Tryz.prog 73 ⟨Tryz.t73.desc, Tryz.t73, none⟩ := ty_plain (by kernel_rfl) Tryz.underlying73
theorem ty74 : TyOk Tryz.prog 74 ⟨Tryz.t74.desc, Tryz.t74, none⟩ := ty_plain (by kernel_rfl) Tryz.underlying74
theorem ty75 : TyOk Tryz.prog 75 ⟨Tryz.t75.desc, Tryz.t75, none⟩ := ty_plain (by kernel_rfl) Tryz.underlying75
theorem ty76 : TyOk Tryz.prog 76 ⟨Tryz.t76.desc, Tryz.t76, none⟩ := ty_plain (by kernel_rfl) Tryz.underlying76
theorem ty77 : TyOk Tryz.prog 77 ⟨Tryz.t76.desc, Tryz.t77, none⟩ := ty_plain (by kernel_rfl) Tryz.underlying77
theorem ty78 : TyOk Tryz.prog 78 ⟨Tryz.t78.desc, Tryz.t78, none⟩ := ty_plain (by kernel_rfl) Tryz.underlying78
theorem ty79 : TyOk Tryz.prog 79 ⟨Tryz.t79.desc, Tryz.t79, none⟩ := ty_plain (by kernel_rfl) Tryz.underlying79
theorem ty80 : TyOk Tryz.prog 80 ⟨Tryz.t80.desc, Tryz.t80, none⟩ := ty_plain (by kernel_rfl) Tryz.underlying80
theorem ty81 : TyOk Tryz.prog 81 ⟨Tryz.t81.desc, Tryz.t81, none⟩ := ty_plain (by kernel_rfl) Tryz.underlying81
theorem ty82 : TyOk Tryz.prog 82 ⟨Tryz.t81.desc, Tryz.t82, none⟩ := ty_plain (by kernel_rfl) Tryz.underlying82
theorem ty83 : TyOk Tryz.prog 83 ⟨Tryz.t83.desc, Tryz.t83, none⟩ := ty_plain (by kernel_rfl) Tryz.underlying83
theorem ty84 : TyOk Tryz.prog 84 ⟨Tryz.t84.desc, Tryz.t84, none⟩ := ty_plain (by kernel_rfl) Tryz.underlying84
theorem ty85 : TyOk Tryz.prog 85 ⟨Tryz.t85.desc, Tryz.t85, none⟩ := ty_plain (by kernel_rfl) Tryz.underlying85
theorem ty86 : TyOk Tryz.prog 86 ⟨Tryz.t86.desc, Tryz.t86, none⟩ := ty_plain (by kernel_rfl) Tryz.underlying86
theorem ty87 : TyOk Tryz.prog 87 ⟨Tryz.t87.desc, Tryz.t87, none⟩ := ty_plain (by kernel_rfl) Tryz.underlying87
theorem ty88 : TyOk Tryz.prog 88 ⟨Tryz.t88.desc, Tryz.t88, none⟩ := ty_plain (by kernel_rfl) Tryz.underlying88
theorem ty89 : TyOk Tryz.prog 89 ⟨Tryz.t89.desc, Tryz.t89, none⟩ := ty_plain (by kernel_rfl) Tryz.underlying89
theorem ty90 : TyOk Tryz.prog 90 ⟨Tryz.t90.desc, Tryz.t90, none⟩ := ty_plain (by kernel_rfl) Tryz.underlying90
theorem ty91 : TyOk Tryz.prog 91 ⟨Tryz.t91.desc, Tryz.t91, none⟩ := ty_plain (by kernel_rfl) Tryz.underlying91
theorem ty92 : TyOk Tryz.prog 92 ⟨Tryz.t92.desc, Tryz.t92, none⟩ := ty_plain (by kernel_rfl) Tryz.underlying92
theorem ty93 : TyOk Tryz.prog 93 ⟨Tryz.t93.desc, Tryz.t93, none⟩ := ty_plain (by kernel_rfl) Tryz.underlying93
theorem ty94 : TyOk Tryz.prog 94 ⟨Tryz.t94.desc, Tryz.t94, none⟩ := ty_plain (by kernel_rfl) Tryz.underlying94
theorem ty95 : TyOk Tryz.prog 95 ⟨Tryz.t95.desc, Tryz.t95, none⟩ := ty_plain (by kernel_rfl) Tryz.underlying95
theorem ty96 : TyOk Tryz.prog 96 ⟨Tryz.t96.desc, Tryz.t96, none⟩ := ty_plain (by kernel_rfl) Tryz.underlying96
theorem ty97 : TyOk Tryz.prog 97 ⟨Tryz.t97.desc, Tryz.t97, none⟩ := ty_plain (by kernel_rfl) Tryz.underlying97
theorem ty98 : TyOk Tryz.prog 98 ⟨Tryz.t98.desc, Tryz.t98, none⟩ := ty_plain (by kernel_rfl) Tryz.underlying98
theorem ty99 : TyOk Tryz.prog 99 ⟨Tryz.t98.desc, Tryz.t99, none⟩ := ty_plain (by kernel_rfl) Tryz.underlying99
theorem ty100 : TyOk Tryz.prog 100 ⟨Tryz.t100.desc, Tryz.t100, none⟩ := ty_plain (by kernel_rfl) Tryz.underlying100
theorem ty101 : TyOk Tryz.prog 101 ⟨Tryz.t100.desc, Tryz.t101, none⟩ := ty_plain (by kernel_rfl) Tryz.underlying101
theorem ty102 : TyOk Tryz.prog 102 ⟨Tryz.t102.desc, Tryz.t102, none⟩ := ty_plain (by kernel_rfl) Tryz.underlying102
theorem ty103 : TyOk Tryz.prog 103 ⟨Tryz.t103.desc, Tryz.t103, none⟩ := ty_plain (by kernel_rfl) Tryz.underlying103
theorem ty104 : TyOk Tryz.prog 104 ⟨Tryz.t104.desc, Tryz.t104, none⟩ := ty_plain (by kernel_rfl) Tryz.underlying104
theorem ty105 : TyOk Tryz.prog 105 ⟨Tryz.t105.desc, Tryz.t105, none⟩ := ty_plain (by kernel_rfl) Tryz.underlying105
theorem ty106 : TyOk Tryz.prog 106 ⟨Tryz.t106.desc, Tryz.t106, none⟩ := ty_plain (by kernel_rfl) Tryz.underlying106
theorem ty107 : TyOk Tryz.prog 107 ⟨Tryz.t107.desc, Tryz.t107, none⟩ := ty_plain (by kernel_rfl) Tryz.underlying107
theorem ty108 : TyOk Tryz.prog 108 ⟨Tryz.t108.desc, Tryz.t108, none⟩ := ty_plain (by kernel_rfl) Tryz.underlying108
theorem ty109 : TyOk Tryz.prog 109 ⟨Tryz.t109.desc, Tryz.t109, none⟩ := ty_plain (by kernel_rfl) Tryz.underlying109
theorem ty110 : TyOk Tryz.prog 110 ⟨Tryz.t110.desc, Tryz.t110, some [.s, .s]⟩ := ty_sk (by kernel_rfl) Tryz.underlying110 (by kernel_rfl)
theorem ty111 : TyOk Tryz.prog 111 ⟨Tryz.t110.desc, Tryz.t111, some [.s, .s]⟩ := ty_sk (by kernel_rfl) Tryz.underlying111 (by kernel_rfl)
theorem ty112 : TyOk Tryz.prog 112 ⟨Tryz.t112.desc, Tryz.t112, none⟩ := ty_plain (by kernel_rfl) Tryz.underlying112
theorem ty113 : TyOk Tryz.prog 113 ⟨Tryz.t113.desc, Tryz.t113, none⟩ := ty_plain (by kernel_rfl) Tryz.underlying113
theorem ty114 : TyOk Tryz.prog 114 ⟨Tryz.t114.desc, Tryz.t114, none⟩ := ty_plain (by kernel_rfl) Tryz.underlying114
theorem ty115 : TyOk Tryz.prog 115 ⟨Tryz.t115.desc, Tryz.t115, none⟩ := ty_plain (by kernel_rfl) Tryz.underlying115
theorem ty116 : TyOk Tryz.prog 116 ⟨Tryz.t116.desc, Tryz.t116, none⟩ := ty_plain (by kernel_rfl) Tryz.underlying116
theorem ty117 : TyOk Tryz.prog 117 ⟨Tryz.t117.desc, Tryz.t117, none⟩ := ty_plain (by kernel_rfl) Tryz.underlying117
theorem ty118 : TyOk Tryz.prog 118 ⟨Tryz.t118.desc, Tryz.t118, none⟩ := ty_plain (by kernel_rfl) Tryz.underlying118
theorem ty119 : TyOk Tryz.prog 119 ⟨Tryz.t119.desc, Tryz.t119, none⟩ := ty_plain (by kernel_rfl) Tryz.underlying119
theorem ty120 : TyOk Tryz.prog 120 ⟨Tryz.t120.desc, Tryz.t120, none⟩ := ty_plain (by kernel_rfl) Tryz.underlying120
theorem ty121 : TyOk Tryz.prog 121 ⟨Tryz.t121.desc, Tryz.t121, none⟩ := ty_plain (by kernel_rfl) Tryz.underlying121
theorem ty122 : TyOk Tryz.prog 122 ⟨Tryz.t122.desc, Tryz.t122, some [.i, .i]⟩ := ty_sk (by kernel_rfl) Tryz.underlying122 (by kernel_rfl)
theorem ty123 : TyOk Tryz.prog 123 ⟨Tryz.t122.desc, Tryz.t123, some [.i, .i]⟩ := ty_sk (by kernel_rfl) Tryz.underlying123 (by kernel_rfl)
theorem ty124 : TyOk Tryz.prog 124 ⟨Tryz.t124.desc, Tryz.t124, none⟩ := ty_plain (by kernel_rfl) Tryz.underlying124
theorem ty125 : TyOk Tryz.prog 125 ⟨Tryz.t125.desc, Tryz.t125, none⟩ := ty_plain (by kernel_rfl) Tryz.underlying125
theorem ty126 : TyOk Tryz.prog 126 ⟨Tryz.t126.desc, Tryz.t126, none⟩ := ty_plain (by kernel_rfl) Tryz.underlying126
theorem ty127 : TyOk Tryz.prog 127 ⟨Tryz.t127.desc, Tryz.t127, none⟩ := ty_plain (by kernel_rfl) Tryz.underlying127
theorem ty128 : TyOk Tryz.prog 128 ⟨Tryz.t128.desc, Tryz.t128, none⟩ := ty_plain (by kernel_rfl) Tryz.underlying128
theorem ty129 : TyOk Tryz.prog 129 ⟨Tryz.t129.desc, Tryz.t129, none⟩ := ty_plain (by kernel_rfl) Tryz.underlying129
theorem ty130 : TyOk Tryz.prog 130 ⟨Tryz.t130.desc, Tryz.t130, none⟩ := ty_plain (by kernel_rfl) Tryz.underlying130
theorem ty131 : TyOk Tryz.prog 131 ⟨Tryz.t131.desc, Tryz.t131, none⟩ := ty_plain (by kernel_rfl) Tryz.underlying131
theorem ty132 : TyOk Tryz.prog 132 ⟨Tryz.t132.desc, Tryz.t132, none⟩ := ty_plain (by kernel_rfl) Tryz.underlying132
theorem ty133 : TyOk Tryz.prog 133 ⟨Tryz.t133.desc, Tryz.t133, none⟩ := ty_plain (by kernel_rfl) Tryz.underlying133
theorem ty134 : TyOk Tryz.prog 134 ⟨Tryz.t134.desc, Tryz.t134, none⟩ := ty_plain (by kernel_rfl) Tryz.underlying134
theorem ty135 : TyOk Tryz.prog 135 ⟨Tryz.t135.desc, Tryz.t135, none⟩ := ty_plain (by kernel_rfl) Tryz.underlying135
theorem ty136 : TyOk Tryz.prog 136 ⟨Tryz.t136.desc, Tryz.t136, none⟩ := ty_plain (by kernel_rfl) Tryz.underlying136
theorem ty137 : TyOk Tryz.prog 137 ⟨Tryz.t137.desc, Tryz.t137, none⟩ := ty_plain (by kernel_rfl) Tryz.underlying137
theorem ty138 : TyOk Tryz.prog 138 ⟨Tryz.t138.desc, Tryz.t138, none⟩ := ty_plain (by kernel_rfl) Tryz.underlying138
theorem ty139 : TyOk Tryz.prog 139 ⟨Tryz.t139.desc, Tryz.t139, none⟩ := ty_plain (by kernel_rfl) Tryz.underlying139
theorem ty140 : TyOk Tryz.prog 140 ⟨Tryz.t140.desc, Tryz.t140, none⟩ := ty_plain (by kernel_rfl) Tryz.underlying140
theorem ty141 : TyOk Tryz.prog 141 ⟨Tryz.t141.desc, Tryz.t141, none⟩ := ty_plain (by kernel_rfl) Tryz.underlying141
theorem ty142 : TyOk Tryz.prog 142 ⟨Tryz.t142.desc, Tryz.t142, none⟩ := ty_plain (by kernel_rfl) Tryz.underlying142
theorem ty143 : TyOk Tryz.prog 143 ⟨Tryz.t143.desc, Tryz.t143, none⟩ := ty_plain (by kernel_rfl) Tryz.underlying143
theorem ty144 : TyOk Tryz.prog 144 ⟨Tryz.t144.desc, Tryz.t144, none⟩ := ty_plain (by kernel_rfl) Tryz.underlying144
theorem ty145 : TyOk Tryz.prog 145 ⟨Tryz.t145.desc, Tryz.t145, none⟩ := ty_plain (by kernel_rfl) Tryz.underlying145
theorem ty146 : TyOk Tryz.prog 146 ⟨Tryz.t146.desc, Tryz.t146, none⟩ := ty_plain (by kernel_rfl) Tryz.underlying146
theorem ty147 : TyOk Tryz.prog 147 ⟨Tryz.t147.desc, Tryz.t147, none⟩ := ty_plain (by kernel_rfl) Tryz.underlying147
theorem ty148 : TyOk Tryz.prog 148 ⟨Tryz.t148.desc, Tryz.t148, none⟩ := ty_plain (by kernel_rfl) Tryz.underlying148
theorem ty149 : TyOk Tryz.prog 149 ⟨Tryz.t149.desc, Tryz.t149, none⟩ := ty_plain (by kernel_rfl) Tryz.underlying149
theorem ty150 : TyOk Tryz.prog 150 ⟨Tryz.t150.desc, Tryz.t150, some [.i, .s, .i]⟩ := ty_sk (by kernel_rfl) Tryz.underlying150 (by kernel_rfl)
theorem ty151 : TyOk Tryz.prog 151 ⟨Tryz.t150.desc, Tryz.t151, some [.i, .s, .i]⟩ := ty_sk (by kernel_rfl) Tryz.underlying151 (by kernel_rfl)
theorem ty152 : TyOk Tryz.prog 152 ⟨Tryz.t152.desc, Tryz.t152, none⟩ := ty_plain (by kernel_rfl) Tryz.underlying152
theorem ty153 : TyOk Tryz.prog 153 ⟨Tryz.t153.desc, Tryz.t153, none⟩ := ty_plain (by kernel_rfl) Tryz.underlying153
theorem ty154 : TyOk Tryz.prog 154 ⟨Tryz.t154.desc, Tryz.t154, none⟩ := ty_plain (by kernel_rfl) Tryz.underlying154
theorem ty155 : TyOk Tryz.prog 155 ⟨Tryz.t155.desc, Tryz.t155, none⟩ := ty_plain (by kernel_rfl) Tryz.underlying155
theorem ty156 : TyOk Tryz.prog 156 ⟨Tryz.t156.desc, Tryz.t156, none⟩ := ty_plain (by kernel_rfl) Tryz.underlying156
theorem ty157 : TyOk Tryz.prog 157 ⟨Tryz.t157.desc, Tryz.t157, none⟩ := ty_plain (by kernel_rfl) Tryz.underlying157
theorem ty158 : TyOk Tryz.prog 158 ⟨Tryz.t34.desc, Tryz.t158, some [.i, .i]⟩ := ty_sk (by kernel_rfl) Tryz.underlying158 (by kernel_rfl)
theorem ty159 : TyOk Tryz.prog 159 ⟨Tryz.t159.desc, Tryz.t159, none⟩ := ty_plain (by kernel_rfl) Tryz.underlying159
theorem ty160 : TyOk Tryz.prog 160 ⟨Tryz.t160.desc, Tryz.t160, none⟩ := ty_plain (by kernel_rfl) Tryz.underlying160
theorem ty161 : TyOk Tryz.prog 161 ⟨Tryz.t161.desc, Tryz.t161, none⟩ := ty_plain (by kernel_rfl) Tryz.underlying161
theorem ty162 : TyOk Tryz.prog 162 ⟨Tryz.t162.desc, Tryz.t162, none⟩ := ty_plain (by kernel_rfl) Tryz.underlying162
theorem ty163 : TyOk Tryz.prog 163 ⟨Tryz.t163.desc, Tryz.t163, none⟩ := ty_plain (by kernel_rfl) Tryz.underlying163
theorem ty164 : TyOk Tryz.prog 164 ⟨Tryz.t164.desc, Tryz.t164, none⟩ := ty_plain (by kernel_rfl) Tryz.underlying164
theorem ty165 : TyOk Tryz.prog 165 ⟨Tryz.t165.desc, Tryz.t165, none⟩ := ty_plain (by kernel_rfl) Tryz.underlying165
theorem ty166 : TyOk Tryz.prog 166 ⟨Tryz.t165.desc, Tryz.t166, none⟩ := ty_plain (by kernel_rfl) Tryz.underlying166
theorem ty167 : TyOk Tryz.prog 167 ⟨Tryz.t167.desc, Tryz.t167, none⟩ := ty_plain (by kernel_rfl) Tryz.underlying167
theorem ty168 : TyOk Tryz.prog 168 ⟨Tryz.t168.desc, Tryz.t168, some [.i, .i, .i]⟩ := ty_sk (by kernel_rfl) Tryz.underlying168 (by kernel_rfl)
theorem ty169 : TyOk Tryz.prog 169 ⟨Tryz.t168.desc, Tryz.t169, some [.i, .i, .i]⟩ := ty_sk (by kernel_rfl) Tryz.underlying169 (by kernel_rfl)
theorem ty170 : TyOk Tryz.prog 170 ⟨Tryz.t170.desc, Tryz.t170, none⟩ := ty_plain (by kernel_rfl) Tryz.underlying170
theorem ty171 : TyOk Tryz.prog 171 ⟨Tryz.t171.desc, Tryz.t171, some [.i, .i, .i]⟩ := ty_sk (by kernel_rfl) Tryz.underlying171 (by kernel_rfl)
theorem ty172 : TyOk Tryz.prog 172 ⟨Tryz.t171.desc, Tryz.t172, some [.i, .i, .i]⟩ := ty_sk (by kernel_rfl) Tryz.underlying172 (by kernel_rfl)
theorem ty173 : TyOk Tryz.prog 173 ⟨Tryz.t173.desc, Tryz.t173, none⟩ := ty_plain (by kernel_rfl) Tryz.underlying173
theorem ty174 : TyOk Tryz.prog 174 ⟨Tryz.t174.desc, Tryz.t174, none⟩ := ty_plain (by kernel_rfl) Tryz.underlying174
theorem ty175 : TyOk Tryz.prog 175 ⟨Tryz.t175.desc, Tryz.t175, none⟩ := ty_plain (by kernel_rfl) Tryz.underlying175
theorem ty176 : TyOk Tryz.prog 176 ⟨Tryz.t176.desc, Tryz.t176, none⟩ := ty_plain (by kernel_rfl) Tryz.underlying176
theorem ty177 : TyOk Tryz.prog 177 ⟨Tryz.t177.desc, Tryz.t177, none⟩ := ty_plain (by kernel_rfl) Tryz.underlying177
theorem ty178 : TyOk Tryz.prog 178 ⟨Tryz.t178.desc, Tryz.t178, none⟩ := ty_plain (by kernel_rfl) Tryz.underlying178
theorem ty179 : TyOk Tryz.prog 179 ⟨Tryz.t179.desc, Tryz.t179, none⟩ := ty_plain (by kernel_rfl) Tryz.underlying179
theorem ty180 : TyOk Tryz.prog 180 ⟨Tryz.t180.desc, Tryz.t180, none⟩ := ty_plain (by kernel_rfl) Tryz.underlying180
theorem ty181 : TyOk Tryz.prog 181 ⟨Tryz.t181.desc, Tryz.t181, none⟩ := ty_plain (by kernel_rfl) Tryz.underlying181
theorem ty182 : TyOk Tryz.prog 182 ⟨Tryz.t182.desc, Tryz.t182, none⟩ := ty_plain (by kernel_rfl) Tryz.underlying182
theorem ty183 : TyOk Tryz.prog 183 ⟨Tryz.t183.desc, Tryz.t183, none⟩ := ty_plain (by kernel_rfl) Tryz.underlying183
theorem ty184 : TyOk Tryz.prog 184 ⟨Tryz.t184.desc, Tryz.t184, none⟩ := ty_plain (by kernel_rfl) Tryz.underlying184
theorem ty185 : TyOk Tryz.prog 185 ⟨Tryz.t185.desc, Tryz.t185, none⟩ := ty_plain (by kernel_rfl) Tryz.underlying185
theorem ty186 : TyOk Tryz.prog 186 ⟨Tryz.t186.desc, Tryz.t186, none⟩ := ty_plain (by kernel_rfl) Tryz.underlying186
theorem ty187 : TyOk Tryz.prog 187 ⟨Tryz.t187.desc, Tryz.t187, none⟩ := ty_plain (by kernel_rfl) Tryz.underlying187
theorem ty188 : TyOk Tryz.prog 188 ⟨Tryz.t188.desc, Tryz.t188, none⟩ := ty_plain (by kernel_rfl) Tryz.underlying188
theorem ty189 : TyOk Tryz.prog 189 ⟨Tryz.t189.desc, Tryz.t189, none⟩ := ty_plain (by kernel_rfl) Tryz.underlying189
theorem ty190 : TyOk Tryz.prog 190 ⟨Tryz.t190.desc, Tryz.t190, none⟩ := ty_plain (by kernel_rfl) Tryz.underlying190
theorem ty191 : TyOk Tryz.prog 191 ⟨Tryz.t191.desc, Tryz.t191, none⟩ := ty_plain (by kernel_rfl) Tryz.underlying191
theorem ty192 : TyOk Tryz.prog 192 ⟨Tryz.t192.desc, Tryz.t192, none⟩ := ty_plain (by kernel_rfl) Tryz.underlying192
theorem ty193 : TyOk Tryz.prog 193 ⟨Tryz.t193.desc, Tryz.t193, none⟩ := ty_plain (by kernel_rfl) Tryz.underlying193
theorem ty194 : TyOk Tryz.prog 194 ⟨Tryz.t194.desc, Tryz.t194, none⟩ := ty_plain (by kernel_rfl) Tryz.underlying194
theorem ty195 : TyOk Tryz.prog 195 ⟨Tryz.t195.desc, Tryz.t195, none⟩ := ty_plain (by kernel_rfl) Tryz.underlying195
theorem ty196 : TyOk Tryz.prog 196 ⟨Tryz.t3.desc, Tryz.t196, none⟩ := ty_plain (by kernel_rfl) Tryz.underlying196
theorem ty197 : TyOk Tryz.prog 197 ⟨Tryz.t197.desc, Tryz.t197, none⟩ := ty_plain (by kernel_rfl) Tryz.underlying197
theorem ty198 : TyOk Tryz.prog 198 ⟨Tryz.t198.desc, Tryz.t198, none⟩ := ty_plain (by kernel_rfl) Tryz.underlying198
theorem ty199 : TyOk Tryz.prog 199 ⟨Tryz.t199.desc, Tryz.t199, none⟩ := ty_plain (by kernel_rfl) Tryz.underlying199
theorem ty200 : TyOk Tryz.prog 200 ⟨Tryz.t200.desc, Tryz.t200, none⟩ := ty_plain (by kernel_rfl) Tryz.underlying200
theorem ty201 : TyOk Tryz.prog 201 ⟨Tryz.t201.desc, Tryz.t201, none⟩ := ty_plain (by kernel_rfl) Tryz.underlying201
theorem ty202 : TyOk Tryz.prog 202 ⟨Tryz.t202.desc, Tryz.t202, none⟩ := ty_plain (by kernel_rfl) Tryz.underlying202
theorem ty203 : TyOk Tryz.prog 203 ⟨Tryz.t203.desc, Tryz.t203, none⟩ := ty_plain (by kernel_rfl) Tryz.underlying203
theorem ty204 : TyOk Tryz.prog 204 ⟨Tryz.t204.desc, Tryz.t204, none⟩ := ty_plain (by kernel_rfl) Tryz.underlying204
theorem ty205 : TyOk Tryz.prog 205 ⟨Tryz.t205.desc, Tryz.t205, none⟩ := ty_plain (by kernel_rfl) Tryz.underlying205
theorem ty206 : TyOk Tryz.prog 206 ⟨Tryz.t206.desc, Tryz.t206, none⟩ := ty_plain (by kernel_rfl) Tryz.underlying206
theorem ty207 : TyOk Tryz.prog 207 ⟨Tryz.t207.desc, Tryz.t207, none⟩ := ty_plain (by kernel_rfl) Tryz.underlying207
theorem ty208 : TyOk Tryz.prog 208 ⟨Tryz.t208.desc, Tryz.t208, none⟩ := ty_plain (by kernel_rfl) Tryz.underlying208
theorem ty209 : TyOk Tryz.prog 209 ⟨Tryz.t209.desc, Tryz.t209, none⟩ := ty_plain (by kernel_rfl) Tryz.underlying209
theorem ty210 : TyOk Tryz.prog 210 ⟨Tryz.t210.desc, Tryz.t210, none⟩ := ty_plain (by kernel_rfl) Tryz.underlying210
theorem ty211 : TyOk Tryz.prog 211 ⟨Tryz.t211.desc, Tryz.t211, none⟩ := ty_plain (by kernel_rfl) Tryz.underlying211
theorem ty212 : TyOk Tryz.prog 212 ⟨Tryz.t212.desc, Tryz.t212, none⟩ := ty_plain (by kernel_rfl) Tryz.underlying212
theorem ty213 : TyOk Tryz.prog 213 ⟨Tryz.t213.desc, Tryz.t213, none⟩ := ty_plain (by kernel_rfl) Tryz.underlying213
theorem ty214 : TyOk Tryz.prog 214 ⟨Tryz.t214.desc, Tryz.t214, none⟩ := ty_plain (by kernel_rfl) Tryz.underlying214
theorem ty215 : TyOk Tryz.prog 215 ⟨Tryz.t215.desc, Tryz.t215, none⟩ := ty_plain (by kernel_rfl) Tryz.underlying215
theorem ty216 : TyOk Tryz.prog 216 ⟨Tryz.t216.desc, Tryz.t216, none⟩ := ty_plain (by kernel_rfl) Tryz.underlying216
theorem ty217 : TyOk Tryz.prog 217 ⟨Tryz.t217.desc, Tryz.t217, none⟩ := ty_plain (by kernel_rfl) Tryz.underlying217
theorem ty218 : TyOk Tryz.prog 218 ⟨Tryz.t218.desc, Tryz.t218, none⟩ := ty_plain (by kernel_rfl) Tryz.underlying218
theorem ty219 : TyOk Tryz.prog 219 ⟨Tryz.t219.desc, Tryz.t219, none⟩ := ty_plain (by kernel_rfl) Tryz.underlying219
theorem ty220 : TyOk Tryz.prog 220 ⟨Tryz.t219.desc, Tryz.t220, none⟩ := ty_plain (by kernel_rfl) Tryz.underlying220
theorem ty221 : TyOk Tryz.prog 221 ⟨Tryz.t221.desc, Tryz.t221, some [.b, .s, .i]⟩ := ty_sk (by kernel_rfl) Tryz.underlying221 (by kernel_rfl)
theorem ty222 : TyOk Tryz.prog 222 ⟨Tryz.t221.desc, Tryz.t222, some [.b, .s, .i]⟩ := ty_sk (by kernel_rfl) Tryz.underlying222 (by kernel_rfl)
theorem ty223 : TyOk Tryz.prog 223 ⟨Tryz.t223.desc, Tryz.t223, none⟩ := ty_plain (by kernel_rfl) Tryz.underlying223
theorem ty224 : TyOk Tryz.prog 224 ⟨Tryz.t224.desc, Tryz.t224, none⟩ := ty_plain (by kernel_rfl) Tryz.underlying224
theorem ty225 : TyOk Tryz.prog 225 ⟨Tryz.t225.desc, Tryz.t225, none⟩ := ty_plain (by kernel_rfl) Tryz.underlying225
theorem ty226 : TyOk Tryz.prog 226 ⟨Tryz.t226.desc, Tryz.t226, none⟩ := ty_plain (by kernel_rfl) Tryz.underlying226
theorem ty227 : TyOk Tryz.prog 227 ⟨Tryz.t227.desc, Tryz.t227, none⟩ := ty_plain (by kernel_rfl) Tryz.underlying227
theorem ty228 : TyOk Tryz.prog 228 ⟨Tryz.t228.desc, Tryz.t228, none⟩ := ty_plain (by kernel_rfl) Tryz.underlying228
theorem ty229 : TyOk Tryz.prog 229 ⟨Tryz.t229.desc, Tryz.t229, none⟩ := ty_plain (by kernel_rfl) Tryz.underlying229
theorem ty230 : TyOk Tryz.prog 230 ⟨Tryz.t230.desc, Tryz.t230, none⟩ := ty_plain (by kernel_rfl) Tryz.underlying230
theorem ty231 : TyOk Tryz.prog 231 ⟨Tryz.t231.desc, Tryz.t231, none⟩ := ty_plain (by kernel_rfl) Tryz.underlying231
theorem ty232 : TyOk Tryz.prog 232 ⟨Tryz.t232.desc, Tryz.t232, none⟩ := ty_plain (by kernel_rfl) Tryz.underlying232
theorem ty233 : TyOk Tryz.prog 233 ⟨Tryz.t205.desc, Tryz.t233, none⟩ := ty_plain (by kernel_rfl) Tryz.underlying233
theorem ty234 : TyOk Tryz.prog 234 ⟨Tryz.t234.desc, Tryz.t234, none⟩ := ty_plain (by kernel_rfl) Tryz.underlying234
theorem ty235 : TyOk Tryz.prog 235 ⟨Tryz.t235.desc, Tryz.t235, none⟩ := ty_plain (by kernel_rfl) Tryz.underlying235
theorem ty236 : TyOk Tryz.prog 236 ⟨Tryz.t236.desc, Tryz.t236, none⟩ := ty_plain (by kernel_rfl) Tryz.underlying236
theorem ty237 : TyOk Tryz.prog 237 ⟨Tryz.t237.desc, Tryz.t237, none⟩ := ty_plain (by kernel_rfl) Tryz.underlying237
theorem ty238 : TyOk Tryz.prog 238 ⟨Tryz.t238.desc, Tryz.t238, none⟩ := ty_plain (by kernel_rfl) Tryz.underlying238
theorem ty239 : TyOk Tryz.prog 239 ⟨Tryz.t239.desc, Tryz.t239, none⟩ := ty_plain (by kernel_rfl) Tryz.underlying239
theorem ty240 : TyOk Tryz.prog 240 ⟨Tryz.t240.desc, Tryz.t240, none⟩ := ty_plain (by kernel_rfl) Tryz.underlying240
theorem ty241 : TyOk Tryz.prog 241 ⟨Tryz.t241.desc, Tryz.t241, none⟩ := ty_plain (by kernel_rfl) Tryz.underlying241
theorem ty242 : TyOk Tryz.prog 242 ⟨Tryz.t242.desc, Tryz.t242, none⟩ := ty_plain (by kernel_rfl) Tryz.underlying242
theorem ty243 : TyOk Tryz.prog 243 ⟨Tryz.t243.desc, Tryz.t243, none⟩ := ty_plain (by kernel_rfl) Tryz.underlying243
theorem ty244 : TyOk Tryz.prog 244 ⟨Tryz.t244.desc, Tryz.t244, none⟩ := ty_plain (by kernel_rfl) Tryz.underlying244
theorem ty245 : TyOk Tryz.prog 245 ⟨Tryz.t245.desc, Tryz.t245, none⟩ := ty_plain (by kernel_rfl) Tryz.underlying245
theorem ty246 : TyOk Tryz.prog 246 ⟨Tryz.t246.desc, Tryz.t246, none⟩ := ty_plain (by kernel_rfl) Tryz.underlying246
theorem ty247 : TyOk Tryz.prog 247 ⟨Tryz.t247.desc, Tryz.t247, none⟩ := ty_plain (by kernel_rfl) Tryz.underlying247
theorem ty248 : TyOk Tryz.prog 248 ⟨Tryz.t248.desc, Tryz.t248, none⟩ := ty_plain (by kernel_rfl) Tryz.underlying248
theorem ty249 : TyOk Tryz.prog 249 ⟨Tryz.t249.desc, Tryz.t249, none⟩ := ty_plain (by kernel_rfl) Tryz.underlying249
theorem ty250 : TyOk Tryz.prog 250 ⟨Tryz.t250.desc, Tryz.t250, none⟩ := ty_plain (by kernel_rfl) Tryz.underlying250
theorem ty251 : TyOk Tryz.prog 251 ⟨Tryz.t251.desc, Tryz.t251, none⟩ := ty_plain (by kernel_rfl) Tryz.underlying251
theorem ty252 : TyOk Tryz.prog 252 ⟨Tryz.t252.desc, Tryz.t252, none⟩ := ty_plain (by kernel_rfl) Tryz.underlying252
theorem ty253 : TyOk Tryz.prog 253 ⟨Tryz.t253.desc, Tryz.t253, none⟩ := ty_plain (by kernel_rfl) Tryz.underlying253
theorem ty254 : TyOk Tryz.prog 254 ⟨Tryz.t254.desc, Tryz.t254, none⟩ := ty_plain (by kernel_rfl) Tryz.underlying254
theorem ty255 : TyOk Tryz.prog 255 ⟨Tryz.t255.desc, Tryz.t255, none⟩ := ty_plain (by kernel_rfl) Tryz.underlying255
theorem ty256 : TyOk Tryz.prog 256 ⟨Tryz.t3.desc, Tryz.t256, none⟩ := ty_plain (by kernel_rfl) Tryz.underlying256
theorem ty257 : TyOk Tryz.prog 257 ⟨Tryz.t257.desc, Tryz.t257, none⟩ := ty_plain (by kernel_rfl) Tryz.underlying257
theorem ty258 : TyOk Tryz.prog 258 ⟨Tryz.t258.desc, Tryz.t258, none⟩ := ty_plain (by kernel_rfl) Tryz.underlying258
theorem ty259 : TyOk Tryz.prog 259 ⟨Tryz.t259.desc, Tryz.t259, none⟩ := ty_plain (by kernel_rfl) Tryz.underlying259
theorem ty260 : TyOk Tryz.prog 260 ⟨Tryz.t260.desc, Tryz.t260, none⟩ := ty_plain (by kernel_rfl) Tryz.underlying260
theorem ty261 : TyOk Tryz.prog 261 ⟨Tryz.t261.desc, Tryz.t261, none⟩ := ty_plain (by kernel_rfl) Tryz.underlying261
theorem ty262 : TyOk Tryz.prog 262 ⟨Tryz.t262.desc, Tryz.t262, none⟩ := ty_plain (by kernel_rfl) Tryz.underlying262
theorem ty263 : TyOk Tryz.prog 263 ⟨Tryz.t263.desc, Tryz.t263, none⟩ := ty_plain (by kernel_rfl) Tryz.underlying263
theorem ty264 : TyOk Tryz.prog 264 ⟨Tryz.t264.desc, Tryz.t264, none⟩ := ty_plain (by kernel_rfl) Tryz.underlying264
theorem ty265 : TyOk Tryz.prog 265 ⟨Tryz.t265.desc, Tryz.t265, none⟩ := ty_plain (by kernel_rfl) Tryz.underlying265
theorem ty266 : TyOk Tryz.prog 266 ⟨Tryz.t266.desc, Tryz.t266, none⟩ := ty_plain (by kernel_rfl) Tryz.underlying266
theorem ty267 : TyOk Tryz.prog 267 ⟨Tryz.t267.desc, Tryz.t267, some [.i, .i]⟩ := ty_sk (by kernel_rfl) Tryz.underlying267 (by kernel_rfl)
theorem ty268 : TyOk Tryz.prog 268 ⟨Tryz.t267.desc, Tryz.t268, some [.i, .i]⟩ := ty_sk (by kernel_rfl) Tryz.underlying268 (by kernel_rfl)
theorem ty269 : TyOk Tryz.prog 269 ⟨Tryz.t269.desc, Tryz.t269, none⟩ := ty_plain (by kernel_rfl) Tryz.underlying269
theorem ty270 : TyOk Tryz.prog 270 ⟨Tryz.t270.desc, Tryz.t270, none⟩ := ty_plain (by kernel_rfl) Tryz.underlying270
theorem ty271 : TyOk Tryz.prog 271 ⟨Tryz.t271.desc, Tryz.t271, none⟩ := ty_plain (by kernel_rfl) Tryz.underlying271
theorem ty272 : TyOk Tryz.prog 272 ⟨Tryz.t272.desc, Tryz.t272, none⟩ := ty_plain (by kernel_rfl) Tryz.underlying272
theorem ty273 : TyOk Tryz.prog 273 ⟨Tryz.t273.desc, Tryz.t273, none⟩ := ty_plain (by kernel_rfl) Tryz.underlying273
theorem ty274 : TyOk Tryz.prog 274 ⟨Tryz.t274.desc, Tryz.t274, none⟩ := ty_plain (by kernel_rfl) Tryz.underlying274
theorem ty275 : TyOk Tryz.prog 275 ⟨Tryz.t275.desc, Tryz.t275, none⟩ := ty_plain (by kernel_rfl) Tryz.underlying275
theorem ty276 : TyOk Tryz.prog 276 ⟨Tryz.t275.desc, Tryz.t276, none⟩ := ty_plain (by kernel_rfl) Tryz.underlying276
theorem ty277 : TyOk Tryz.prog 277 ⟨Tryz.t277.desc, Tryz.t277, none⟩ := ty_plain (by kernel_rfl) Tryz.underlying277
theorem ty278 : TyOk Tryz.prog 278 ⟨Tryz.t278.desc, Tryz.t278, none⟩ := ty_plain (by kernel_rfl) Tryz.underlying278
theorem ty279 : TyOk Tryz.prog 279 ⟨Tryz.t279.desc, Tryz.t279, none⟩ := ty_plain (by kernel_rfl) Tryz.underlying279
theorem ty280 : TyOk Tryz.prog 280 ⟨Tryz.t279.desc, Tryz.t280, none⟩ := ty_plain (by kernel_rfl) Tryz.underlying280
theorem ty281 : TyOk Tryz.prog 281 ⟨Tryz.t281.desc, Tryz.t281, none⟩ := ty_plain (by kernel_rfl) Tryz.underlying281
theorem ty282 : TyOk Tryz.prog 282 ⟨Tryz.t282.desc, Tryz.t282, none⟩ := ty_plain (by kernel_rfl) Tryz.underlying282
theorem ty283 : TyOk Tryz.prog 283 ⟨Tryz.t283.desc, Tryz.t283, none⟩ := ty_plain (by kernel_rfl) Tryz.underlying283
theorem ty284 : TyOk Tryz.prog 284 ⟨Tryz.t284.desc, Tryz.t284, none⟩ := ty_plain (by kernel_rfl) Tryz.underlying284
theorem ty285 : TyOk Tryz.prog 285 ⟨Tryz.t285.desc, Tryz.t285, none⟩ := ty_plain (by kernel_rfl) Tryz.underlying285
theorem ty286 : TyOk Tryz.prog 286 ⟨Tryz.t286.desc, Tryz.t286, none⟩ := ty_plain (by kernel_rfl) Tryz.underlying286
theorem ty287 : TyOk Tryz.prog 287 ⟨Tryz.t287.desc, Tryz.t287, some [.s]⟩ := ty_sk (by kernel_rfl) Tryz.underlying287 (by kernel_rfl)
theorem ty288 : TyOk Tryz.prog 288 ⟨Tryz.t287.desc, Tryz.t288, some [.s]⟩ := ty_sk (by kernel_rfl) Tryz.underlying288 (by kernel_rfl)
theorem ty289 : TyOk Tryz.prog 289 ⟨Tryz.t289.desc, Tryz.t289, none⟩ := ty_plain (by kernel_rfl) Tryz.underlying289
theorem ty290 : TyOk Tryz.prog 290 ⟨Tryz.t290.desc, Tryz.t290, none⟩ := ty_plain (by kernel_rfl) Tryz.underlying290
theorem ty291 : TyOk Tryz.prog 291 ⟨Tryz.t291.desc, Tryz.t291, none⟩ := ty_plain (by kernel_rfl) Tryz.underlying291
theorem ty292 : TyOk Tryz.prog 292 ⟨Tryz.t292.desc, Tryz.t292, none⟩ := ty_plain (by kernel_rfl) Tryz.underlying292
theorem ty293 : TyOk Tryz.prog 293 ⟨Tryz.t293.desc, Tryz.t293, none⟩ := ty_plain (by kernel_rfl) Tryz.underlying293
theorem ty294 : TyOk Tryz.prog 294 ⟨Tryz.t293.desc, Tryz.t294, none⟩ := ty_plain (by kernel_rfl) Tryz.underlying294
theorem ty295 : TyOk Tryz.prog 295 ⟨Tryz.t295.desc, Tryz.t295, none⟩ := ty_plain (by kernel_rfl) Tryz.underlying295
theorem ty296 : TyOk Tryz.prog 296 ⟨Tryz.t295.desc, Tryz.t296, none⟩ := ty_plain (by kernel_rfl) Tryz.underlying296
theorem ty297 : TyOk Tryz.prog 297 ⟨Tryz.t297.desc, Tryz.t297, none⟩ := ty_plain (by kernel_rfl) Tryz.underlying297
theorem ty298 : TyOk Tryz.prog 298 ⟨Tryz.t297.desc, Tryz.t298, none⟩ := ty_plain (by kernel_rfl) Tryz.underlying298
theorem ty299 : TyOk Tryz.prog 299 ⟨Tryz.t299.desc, Tryz.t299, none⟩ := ty_plain (by kernel_rfl) Tryz.underlying299
theorem ty300 : TyOk Tryz.prog 300 ⟨Tryz.t300.desc, Tryz.t300, none⟩ := ty_plain (by kernel_rfl) Tryz.underlying300
theorem ty301 : TyOk Tryz.prog 301 ⟨Tryz.t300.desc, Tryz.t301, none⟩ := ty_plain (by kernel_rfl) Tryz.underlying301
theorem ty302 : TyOk Tryz.prog 302 ⟨Tryz.t5.desc, Tryz.t302, none⟩ := ty_plain (by kernel_rfl) Tryz.underlying302
theorem ty303 : TyOk Tryz.prog 303 ⟨Tryz.t5.desc, Tryz.t303, none⟩ := ty_plain (by kernel_rfl) Tryz.underlying303
theorem ty304 : TyOk Tryz.prog 304 ⟨Tryz.t304.desc, Tryz.t304, none⟩ := ty_plain (by kernel_rfl) Tryz.underlying304
theorem ty305 : TyOk Tryz.prog 305 ⟨Tryz.t21.desc, Tryz.t305, none⟩ := ty_plain (by kernel_rfl) Tryz.underlying305
theorem ty306 : TyOk Tryz.prog 306 ⟨Tryz.t21.desc, Tryz.t306, none⟩ := ty_plain (by kernel_rfl) Tryz.underlying306
theorem ty307 : TyOk Tryz.prog 307 ⟨Tryz.t307.desc, Tryz.t307, none⟩ := ty_plain (by kernel_rfl) Tryz.underlying307
theorem ty308 : TyOk Tryz.prog 308 ⟨Tryz.t307.desc, Tryz.t308, none⟩ := ty_plain (by kernel_rfl) Tryz.underlying308
theorem ty309 : TyOk Tryz.prog 309 ⟨Tryz.t309.desc, Tryz.t309, some [.s, .s, .s]⟩ := ty_sk (by kernel_rfl) Tryz.underlying309 (by kernel_rfl)
theorem ty310 : TyOk Tryz.prog 310 ⟨Tryz.t309.desc, Tryz.t310, some [.s, .s, .s]⟩ := ty_sk (by kernel_rfl) Tryz.underlying310 (by kernel_rfl)
theorem fn0 : FnOk Tryz.prog 0 Tryz.f0 := fn_none Tryz.func0 rfl
theorem fn1 : FnOk Tryz.prog 1 Tryz.f1 := fn_none Tryz.func1 rfl
theorem fn2 : FnOk Tryz.prog 2 Tryz.f2 := ⟨Tryz.func2, fun _ _ => Tryz.call2⟩
theorem fn3 : FnOk Tryz.prog 3 Tryz.f3 := ⟨Tryz.func3, fun _ _ => Tryz.call3⟩
theorem fn4 : FnOk Tryz.prog 4 Tryz.f4 := ⟨Tryz.func4, fun _ _ => Tryz.call4⟩
theorem fn5 : FnOk Tryz.prog 5 Tryz.f5 := ⟨Tryz.func5, fun _ _ => Tryz.call5⟩
theorem fn6 : FnOk Tryz.prog 6 Tryz.f6 := ⟨Tryz.func6, fun _ _ => Tryz.call6⟩
theorem fn7 : FnOk Tryz.prog 7 Tryz.f7 := ⟨Tryz.func7, fun _ _ => Tryz.call7⟩
theorem fn8 : FnOk Tryz.prog 8 Tryz.f8 := ⟨Tryz.func8, fun _ _ => Tryz.call8⟩
theorem fn9 : FnOk Tryz.prog 9 Tryz.f9 := ⟨Tryz.func9, fun _ _ => Tryz.call9⟩
theorem fn10 : FnOk Tryz.prog 10 Tryz.f10 := ⟨Tryz.func10, fun _ _ => Tryz.call10⟩
theorem fn11 : FnOk Tryz.prog 11 Tryz.f11 := ⟨Tryz.func11, fun _ _ => Tryz.call11⟩
theorem fn12 : FnOk Tryz.prog 12 Tryz.f12 := ⟨Tryz.func12, fun _ _ => Tryz.call12⟩
theorem fn13 : FnOk Tryz.prog 13 Tryz.f13 := ⟨Tryz.func13, fun _ _ => Tryz.call13⟩
theorem fn14 : FnOk Tryz.prog 14 Tryz.f14 := ⟨Tryz.func14, fun _ _ => Tryz.call14⟩
theorem fn15 : FnOk Tryz.prog 15 Tryz.f15 := ⟨Tryz.func15, fun _ _ => Tryz.call15⟩
theorem fn16 : FnOk Tryz.prog 16 Tryz.f16 := ⟨Tryz.func16, fun _ _ => Tryz.call16⟩
theorem fn17 : FnOk Tryz.prog 17 Tryz.f17 := ⟨Tryz.func17, fun _ _ => Tryz.call17⟩
theorem fn18 : FnOk Tryz.prog 18 Tryz.f18 := ⟨Tryz.func18, fun _ _ => Tryz.call18⟩
theorem fn19 : FnOk Tryz.prog 19 Tryz.f19 := ⟨Tryz.func19, fun _ _ => Tryz.call19⟩
theorem fn20 : FnOk Tryz.prog 20 Tryz.f20 := ⟨Tryz.func20, fun _ _ => Tryz.call20⟩
theorem fn21 : FnOk Tryz.prog 21 Tryz.f21 := ⟨Tryz.func21, fun _ _ => Tryz.call21⟩
theorem fn22 : FnOk Tryz.prog 22 Tryz.f22 := ⟨Tryz.func22, fun _ _ => Tryz.call22⟩
theorem fn23 : FnOk Tryz.prog 23 Tryz.f23 := ⟨Tryz.func23, fun _ _ => Tryz.call23⟩
theorem fn24 : FnOk Tryz.prog 24 Tryz.f24 := ⟨Tryz.func24, fun _ _ => Tryz.call24⟩
theorem fn25 : FnOk Tryz.prog 25 Tryz.f25 := ⟨Tryz.func25, fun _ _ => Tryz.call25⟩
theorem fn26 : FnOk Tryz.prog 26 Tryz.f26 := ⟨Tryz.func26, fun _ _ => Tryz.call26⟩
theorem fn27 : FnOk Tryz.prog 27 Tryz.f27 := ⟨Tryz.func27, fun _ _ => Tryz.call27⟩
theorem fn28 : FnOk Tryz.prog 28 Tryz.f28 := ⟨Tryz.func28, fun _ _ => Tryz.call28⟩
theorem fn29 : FnOk Tryz.prog 29 Tryz.f29 := ⟨Tryz.func29, fun _ _ => Tryz.call29⟩
theorem fn30 : FnOk Tryz.prog 30 Tryz.f30 := ⟨Tryz.func30, fun _ _ => Tryz.call30⟩
theorem fn31 : FnOk Tryz.prog 31 Tryz.f31 := ⟨Tryz.func31, fun _ _ => Tryz.call31⟩
theorem fn32 : FnOk Tryz.prog 32 Tryz.f32 := ⟨Tryz.func32, fun _ _ => Tryz.call32⟩
theorem fn33 : FnOk Tryz.prog 33 Tryz.f33 := ⟨Tryz.func33, fun _ _ => Tryz.call33⟩
theorem fn34 : FnOk Tryz.prog 34 Tryz.f34 := ⟨Tryz.func34, fun _ _ => Tryz.call34⟩
theorem fn35 : FnOk Tryz.prog 35 Tryz.f35 := ⟨Tryz.func35, fun _ _ => Tryz.call35⟩
theorem fn36 : FnOk Tryz.prog 36 Tryz.f36 := ⟨Tryz.func36, fun _ _ => Tryz.call36⟩
theorem fn37 : FnOk Tryz.prog 37 Tryz.f37 := ⟨Tryz.func37, fun _ _ => Tryz.call37⟩
theorem fn38 : FnOk Tryz.prog 38 Tryz.f38 := ⟨Tryz.func38, fun _ _ => Tryz.call38⟩
theorem fn39 : FnOk Tryz.prog 39 Tryz.f39 := ⟨Tryz.func39, fun _ _ => Tryz.call39⟩
theorem fn40 : FnOk Tryz.prog 40 Tryz.f40 := ⟨Tryz.func40, fun _ _ => Tryz.call40⟩
theorem fn41 : FnOk Tryz.prog 41 Tryz.f41 := ⟨Tryz.func41, fun _ _ => Tryz.call41⟩
theorem fn42 : FnOk Tryz.prog 42 Tryz.f42 := ⟨Tryz.func42, fun _ _ => Tryz.call42⟩
theorem fn43 : FnOk Tryz.prog 43 Tryz.f43 := ⟨Tryz.func43, fun _ _ => Tryz.call43⟩
theorem fn44 : FnOk Tryz.prog 44 Tryz.f44 := ⟨Tryz.func44, fun _ _ => Tryz.call44⟩
theorem fn45 : FnOk Tryz.prog 45 Tryz.f45 := ⟨Tryz.func45, fun _ _ => Tryz.call45⟩
theorem fn46 : FnOk Tryz.prog 46 Tryz.f46 := ⟨Tryz.func46, fun _ _ => Tryz.call46⟩
theorem fn47 : FnOk Tryz.prog 47 Tryz.f47 := ⟨Tryz.func47, fun _ _ => Tryz.call47⟩
theorem fn48 : FnOk Tryz.prog 48 Tryz.f48 := ⟨Tryz.func48, fun _ _ => Tryz.call48⟩
theorem fn49 : FnOk Tryz.prog 49 Tryz.f49 := ⟨Tryz.func49, fun _ _ => Tryz.call49⟩
theorem fn50 : FnOk Tryz.prog 50 Tryz.f50 := ⟨Tryz.func50, fun _ _ => Tryz.call50⟩
theorem fn51 : FnOk Tryz.prog 51 Tryz.f51 := ⟨Tryz.func51, fun _ _ => Tryz.call51⟩
theorem fn52 : FnOk Tryz.prog 52 Tryz.f52 := ⟨Tryz.func52, fun _ _ => Tryz.call52⟩
theorem fn53 : FnOk Tryz.prog 53 Tryz.f53 := ⟨Tryz.func53, fun _ _ => Tryz.call53⟩
theorem fn54 : FnOk Tryz.prog 54 Tryz.f54 := ⟨Tryz.func54, fun _ _ => Tryz.call54⟩
theorem fn55 : FnOk Tryz.prog 55 Tryz.f55 := ⟨Tryz.func55, fun _ _ => Tryz.call55⟩
theorem fn56 : FnOk Tryz.prog 56 Tryz.f56 := ⟨Tryz.func56, fun _ _ => Tryz.call56⟩
theorem fn57 : FnOk Tryz.prog 57 Tryz.f57 := ⟨Tryz.func57, fun _ _ => Tryz.call57⟩
theorem fn58 : FnOk Tryz.prog 58 Tryz.f58 := ⟨Tryz.func58, fun _ _ => Tryz.call58⟩
theorem fn59 : FnOk Tryz.prog 59 Tryz.f59 := ⟨Tryz.func59, fun _ _ => Tryz.call59⟩
theorem fn60 : FnOk Tryz.prog 60 Tryz.f60 := ⟨Tryz.func60, fun _ _ => Tryz.call60⟩
theorem fn61 : FnOk Tryz.prog 61 Tryz.f61 := ⟨Tryz.func61, fun _ _ => Tryz.call61⟩
theorem fn62 : FnOk Tryz.prog 62 Tryz.f62 := ⟨Tryz.func62, fun _ _ => Tryz.call62⟩
theorem fn63 : FnOk Tryz.prog 63 Tryz.f63 := ⟨Tryz.func63, fun _ _ => Tryz.call63⟩
theorem fn64 : FnOk Tryz.prog 64 Tryz.f64 := ⟨Tryz.func64, fun _ _ => Tryz.call64⟩
theorem fn65 : FnOk Tryz.prog 65 Tryz.f65 := ⟨Tryz.func65, fun _ _ => Tryz.call65⟩
theorem fn66 : FnOk Tryz.prog 66 Tryz.f66 := ⟨Tryz.func66, fun _ _ => Tryz.call66⟩
theorem fn67 : FnOk Tryz.prog 67 Tryz.f67 := ⟨Tryz.func67, fun _ _ => Tryz.call67⟩
theorem fn68 : FnOk Tryz.prog 68 Tryz.f68 := ⟨Tryz.func68, fun _ _ => Tryz.call68⟩
theorem fn69 : FnOk Tryz.prog 69 Tryz.f69 := ⟨Tryz.func69, fun _ _ => Tryz.call69⟩
theorem fn70 : FnOk Tryz.prog 70 Tryz.f70 := ⟨Tryz.func70, fun _ _ => Tryz.call70⟩
theorem fn71 : FnOk Tryz.prog 71 Tryz.f71 := ⟨Tryz.func71, fun _ _ => Tryz.call71⟩
theorem fn72 : FnOk Tryz.prog 72 Tryz.f72 := ⟨Tryz.func72, fun _ _ => Tryz.call72⟩
theorem fn73 : FnOk Tryz.prog 73 Tryz.f73 := ⟨Tryz.func73, fun _ _ => Tryz.call73⟩
theorem fn74 : FnOk Tryz.prog 74 Tryz.f74 := ⟨Tryz.func74, fun _ _ => Tryz.call74⟩
theorem fn75 : FnOk Tryz.prog 75 Tryz.f75 := ⟨Tryz.func75, fun _ _ => Tryz.call75⟩
theorem fn76 : FnOk Tryz.prog 76 Tryz.f76 := ⟨Tryz.func76, fun _ _ => Tryz.call76⟩
theorem fn77 : FnOk Tryz.prog 77 Tryz.f77 := ⟨Tryz.func77, fun _ _ => Tryz.call77⟩
theorem fn78 : FnOk Tryz.prog 78 Tryz.f78 := ⟨Tryz.func78, fun _ _ => Tryz.call78⟩
theorem fn79 : FnOk Tryz.prog 79 Tryz.f79 := ⟨Tryz.func79, fun _ _ => Tryz.call79⟩
theorem fn80 : FnOk Tryz.prog 80 Tryz.f80 := ⟨Tryz.func80, fun _ _ => Tryz.call80⟩
theorem fn81 : FnOk Tryz.prog 81 Tryz.f81 := ⟨Tryz.func81, fun _ _ => Tryz.call81⟩
theorem fn82 : FnOk Tryz.prog 82 Tryz.f82 := ⟨Tryz.func82, fun _ _ => Tryz.call82⟩
theorem fn83 : FnOk Tryz.prog 83 Tryz.f83 := ⟨Tryz.func83, fun _ _ => Tryz.call83⟩
theorem fn84 : FnOk Tryz.prog 84 Tryz.f84 := ⟨Tryz.func84, fun _ _ => Tryz.call84⟩
theorem fn85 : FnOk Tryz.prog 85 Tryz.f85 := ⟨Tryz.func85, fun _ _ => Tryz.call85⟩
theorem fn86 : FnOk Tryz.prog 86 Tryz.f86 := ⟨Tryz.func86, fun _ _ => Tryz.call86⟩
theorem fn87 : FnOk Tryz.prog 87 Tryz.f87 := ⟨Tryz.func87, fun _ _ => Tryz.call87⟩
theorem fn88 : FnOk Tryz.prog 88 Tryz.f88 := ⟨Tryz.func88, fun _ _ => Tryz.call88⟩
theorem fn89 : FnOk Tryz.prog 89 Tryz.f89 := ⟨Tryz.func89, fun _ _ => Tryz.call89⟩
theorem fn90 : FnOk Tryz.prog 90 Tryz.f90 := ⟨Tryz.func90, fun _ _ => Tryz.call90⟩
theorem fn91 : FnOk Tryz.prog 91 Tryz.f91 := ⟨Tryz.func91, fun _ _ => Tryz.call91⟩
theorem fn92 : FnOk Tryz.prog 92 Tryz.f92 := ⟨Tryz.func92, fun _ _ => Tryz.call92⟩
theorem fn93 : FnOk Tryz.prog 93 Tryz.f93 := ⟨Tryz.func93, fun _ _ => Tryz.call93⟩
theorem fn94 : FnOk Tryz.prog 94 Tryz.f94 := ⟨Tryz.func94, fun _ _ => Tryz.call94⟩
theorem fn95 : FnOk Tryz.prog 95 Tryz.f95 := ⟨Tryz.func95, fun _ _ => Tryz.call95⟩
theorem fn96 : FnOk Tryz.prog 96 Tryz.f96 := ⟨Tryz.func96, fun _ _ => Tryz.call96⟩
theorem fn97 : FnOk Tryz.prog 97 Tryz.f97 := ⟨Tryz.func97, fun _ _ => Tryz.call97⟩
theorem fn98 : FnOk Tryz.prog 98 Tryz.f98 := ⟨Tryz.func98, fun _ _ => Tryz.call98⟩
theorem fn99 : FnOk Tryz.prog 99 Tryz.f99 := ⟨Tryz.func99, fun _ _ => Tryz.call99⟩
theorem fn100 : FnOk Tryz.prog 100 Tryz.f100 := ⟨Tryz.func100, fun _ _ => Tryz.call100⟩
theorem fn101 : FnOk Tryz.prog 101 Tryz.f101 := ⟨Tryz.func101, fun _ _ => Tryz.call101⟩
theorem fn102 : FnOk Tryz.prog 102 Tryz.f102 := ⟨Tryz.func102, fun _ _ => Tryz.call102⟩
theorem fn103 : FnOk Tryz.prog 103 Tryz.f103 := ⟨Tryz.func103, fun _ _ => Tryz.call103⟩
theorem fn104 : FnOk Tryz.prog 104 Tryz.f104 := ⟨Tryz.func104, fun _ _ => Tryz.call104⟩
theorem fn105 : FnOk Tryz.prog 105 Tryz.f105 := ⟨Tryz.func105, fun _ _ => Tryz.call105⟩
theorem fn106 : FnOk Tryz.prog 106 Tryz.f106 := ⟨Tryz.func106, fun _ _ => Tryz.call106⟩
theorem fn107 : FnOk Tryz.prog 107 Tryz.f107 := ⟨Tryz.func107, fun _ _ => Tryz.call107⟩
theorem fn108 : FnOk Tryz.prog 108 Tryz.f108 := ⟨Tryz.func108, fun _ _ => Tryz.call108⟩
theorem fn109 : FnOk Tryz.prog 109 Tryz.f109 := ⟨Tryz.func109, fun _ _ => Tryz.call109⟩
theorem fn110 : FnOk Tryz.prog 110 Tryz.f110 := ⟨Tryz.func110, fun _ _ => Tryz.call110⟩
theorem fn111 : FnOk Tryz.prog 111 Tryz.f111 := ⟨Tryz.func111, fun _ _ => Tryz.call111⟩
theorem fn112 : FnOk Tryz.prog 112 Tryz.f112 := ⟨Tryz.func112, fun _ _ => Tryz.call112⟩
theorem fn113 : FnOk Tryz.prog 113 Tryz.f113 := ⟨Tryz.func113, fun _ _ => Tryz.call113⟩
theorem fn114 : FnOk Tryz.prog 114 Tryz.f114 := ⟨Tryz.func114, fun _ _ => Tryz.call114⟩
theorem fn115 : FnOk Tryz.prog 115 Tryz.f115 := fn_none Tryz.func115 rfl
theorem fn116 : FnOk Tryz.prog 116 Tryz.f116 := ⟨Tryz.func116, fun _ _ => Tryz.call116⟩
theorem fn117 : FnOk Tryz.prog 117 Tryz.f117 := ⟨Tryz.func117, fun _ _ => Tryz.call117⟩
theorem fn118 : FnOk Tryz.prog 118 Tryz.f118 := ⟨Tryz.func118, fun _ _ => Tryz.call118⟩
theorem fn119 : FnOk Tryz.prog 119 Tryz.f119 := ⟨Tryz.func119, fun _ _ => Tryz.call119⟩
theorem fn120 : FnOk Tryz.prog 120 Tryz.f120 := ⟨Tryz.func120, fun _ _ => Tryz.call120⟩
theorem fn121 : FnOk Tryz.prog 121 Tryz.f121 := ⟨Tryz.func121, fun _ _ => Tryz.call121⟩
theorem fn122 : FnOk Tryz.prog 122 Tryz.f122 := ⟨Tryz.func122, fun _ _ => Tryz.call122⟩
theorem fn123 : FnOk Tryz.prog 123 Tryz.f123 := ⟨Tryz.func123, fun _ _ => Tryz.call123⟩
theorem fn124 : FnOk Tryz.prog 124 Tryz.f124 := ⟨Tryz.func124, fun _ _ => Tryz.call124⟩
theorem fn125 : FnOk Tryz.prog 125 Tryz.f125 := ⟨Tryz.func125, fun _ _ => Tryz.call125⟩
theorem fn126 : FnOk Tryz.prog 126 Tryz.f126 := ⟨Tryz.func126, fun _ _ => Tryz.call126⟩
theorem fn127 : FnOk Tryz.prog 127 Tryz.f127 := ⟨Tryz.func127, fun _ _ => Tryz.call127⟩
theorem fn128 : FnOk Tryz.prog 128 Tryz.f128 := ⟨Tryz.func128, fun _ _ => Tryz.call128⟩
theorem fn129 : FnOk Tryz.prog 129 Tryz.f129 := ⟨Tryz.func129, fun _ _ => Tryz.call129⟩
theorem fn130 : FnOk Tryz.prog 130 Tryz.f130 := ⟨Tryz.func130, fun _ _ => Tryz.call130⟩
theorem fn131 : FnOk Tryz.prog 131 Tryz.f131 := ⟨Tryz.func131, fun _ _ => Tryz.call131⟩
theorem fn132 : FnOk Tryz.prog 132 Tryz.f132 := ⟨Tryz.func132, fun _ _ => Tryz.call132⟩
theorem fn133 : FnOk Tryz.prog 133 Tryz.f133 := ⟨Tryz.func133, fun _ _ => Tryz.call133⟩
theorem fn134 : FnOk Tryz.prog 134 Tryz.f134 := ⟨Tryz.func134, fun _ _ => Tryz.call134⟩
theorem fn135 : FnOk Tryz.prog 135 Tryz.f135 := ⟨Tryz.func135, fun _ _ => Tryz.call135⟩
theorem fn136 : FnOk Tryz.prog 136 Tryz.f136 := ⟨Tryz.func136, fun _ _ => Tryz.call136⟩
theorem fn137 : FnOk Tryz.prog 137 Tryz.f137 := ⟨Tryz.func137, fun _ _ => Tryz.call137⟩
theorem fn138 : FnOk Tryz.prog 138 Tryz.f138 := ⟨Tryz.func138, fun _ _ => Tryz.call138⟩
theorem fn139 : FnOk Tryz.prog 139 Tryz.f139 := ⟨Tryz.func139, fun _ _ => Tryz.call139⟩
theorem fn140 : FnOk Tryz.prog 140 Tryz.f140 := ⟨Tryz.func140, fun _ _ => Tryz.call140⟩
theorem fn141 : FnOk Tryz.prog 141 Tryz.f141 := ⟨Tryz.func141, fun _ _ => Tryz.call141⟩
theorem fn142 : FnOk Tryz.prog 142 Tryz.f142 := ⟨Tryz.func142, fun _ _ => Tryz.call142⟩
theorem fn143 : FnOk Tryz.prog 143 Tryz.f143 := ⟨Tryz.func143, fun _ _ => Tryz.call143⟩
theorem fn144 : FnOk Tryz.prog 144 Tryz.f144 := ⟨Tryz.func144, fun _ _ => Tryz.call144⟩
theorem fn145 : FnOk Tryz.prog 145 Tryz.f145 := ⟨Tryz.func145, fun _ _ => Tryz.call145⟩
theorem fn146 : FnOk Tryz.prog 146 Tryz.f146 := ⟨Tryz.func146, fun _ _ => Tryz.call146⟩
theorem fn147 : FnOk Tryz.prog 147 Tryz.f147 := ⟨Tryz.func147, fun _ _ => Tryz.call147⟩
theorem fn148 : FnOk Tryz.prog 148 Tryz.f148 := ⟨Tryz.func148, fun _ _ => Tryz.call148⟩
theorem fn149 : FnOk Tryz.prog 149 Tryz.f149 := ⟨Tryz.func149, fun _ _ => Tryz.call149⟩
theorem fn150 : FnOk Tryz.prog 150 Tryz.f150 := ⟨Tryz.func150, fun _ _ => Tryz.call150⟩
theorem fn151 : FnOk Tryz.prog 151 Tryz.f151 := ⟨Tryz.func151, fun _ _ => Tryz.call151⟩
theorem fn152 : FnOk Tryz.prog 152 Tryz.f152 := ⟨Tryz.func152, fun _ _ => Tryz.call152⟩
theorem fn153 : FnOk Tryz.prog 153 Tryz.f153 := ⟨Tryz.func153, fun _ _ => Tryz.call153⟩
theorem fn154 : FnOk Tryz.prog 154 Tryz.f154 := ⟨Tryz.func154, fun _ _ => Tryz.call154⟩
theorem fn155 : FnOk Tryz.prog 155 Tryz.f155 := ⟨Tryz.func155, fun _ _ => Tryz.call155⟩
theorem fn156 : FnOk Tryz.prog 156 Tryz.f156 := ⟨Tryz.func156, fun _ _ => Tryz.call156⟩
theorem fn157 : FnOk Tryz.prog 157 Tryz.f157 := ⟨Tryz.func157, fun _ _ => Tryz.call157⟩
theorem fn158 : FnOk Tryz.prog 158 Tryz.f158 := ⟨Tryz.func158, fun _ _ => Tryz.call158⟩
theorem fn159 : FnOk Tryz.prog 159 Tryz.f159 := ⟨Tryz.func159, fun _ _ => Tryz.call159⟩
theorem fn160 : FnOk Tryz.prog 160 Tryz.f160 := ⟨Tryz.func160, fun _ _ => Tryz.call160⟩
theorem fn161 : FnOk Tryz.prog 161 Tryz.f161 := ⟨Tryz.func161, fun _ _ => Tryz.call161⟩
theorem fn162 : FnOk Tryz.prog 162 Tryz.f162 := ⟨Tryz.func162, fun _ _ => Tryz.call162⟩
theorem fn163 : FnOk Tryz.prog 163 Tryz.f163 := ⟨Tryz.func163, fun _ _ => Tryz.call163⟩
theorem fn164 : FnOk Tryz.prog 164 Tryz.f164 := ⟨Tryz.func164, fun _ _ => Tryz.call164⟩
theorem fn165 : FnOk Tryz.prog 165 Tryz.f165 := ⟨Tryz.func165, fun _ _ => Tryz.call165⟩
theorem fn166 : FnOk Tryz.prog 166 Tryz.f166 := ⟨Tryz.func166, fun _ _ => Tryz.call166⟩
theorem fn167 : FnOk Tryz.prog 167 Tryz.f167 := ⟨Tryz.func167, fun _ _ => Tryz.call167⟩
theorem fn168 : FnOk Tryz.prog 168 Tryz.f168 := ⟨Tryz.func168, fun _ _ => Tryz.call168⟩
theorem fn169 : FnOk Tryz.prog 169 Tryz.f169 := ⟨Tryz.func169, fun _ _ => Tryz.call169⟩
theorem fn170 : FnOk Tryz.prog 170 Tryz.f170 := ⟨Tryz.func170, fun _ _ => Tryz.call170⟩
theorem fn171 : FnOk Tryz.prog 171 Tryz.f171 := ⟨Tryz.func171, fun _ _ => Tryz.call171⟩
theorem fn172 : FnOk Tryz.prog 172 Tryz.f172 := fn_none Tryz.func172 rfl
theorem fn173 : FnOk Tryz.prog 173 Tryz.f173 := ⟨Tryz.func173, fun _ _ => Tryz.call173⟩
theorem fn174 : FnOk Tryz.prog 174 Tryz.f174 := ⟨Tryz.func174, fun _ _ => Tryz.call174⟩
theorem fn175 : FnOk Tryz.prog 175 Tryz.f175 := ⟨Tryz.func175, fun _ _ => Tryz.call175⟩
theorem fn176 : FnOk Tryz.prog 176 Tryz.f176 := ⟨Tryz.func176, fun _ _ => Tryz.call176⟩
theorem fn177 : FnOk Tryz.prog 177 Tryz.f177 := ⟨Tryz.func177, fun _ _ => Tryz.call177⟩
theorem fn178 : FnOk Tryz.prog 178 Tryz.f178 := ⟨Tryz.func178, fun _ _ => Tryz.call178⟩
theorem fn179 : FnOk Tryz.prog 179 Tryz.f179 := ⟨Tryz.func179, fun _ _ => Tryz.call179⟩
theorem fn180 : FnOk Tryz.prog 180 Tryz.f180 := ⟨Tryz.func180, fun _ _ => Tryz.call180⟩
theorem fn181 : FnOk Tryz.prog 181 Tryz.f181 := ⟨Tryz.func181, fun _ _ => Tryz.call181⟩
theorem fn182 : FnOk Tryz.prog 182 Tryz.f182 := ⟨Tryz.func182, fun _ _ => Tryz.call182⟩
theorem fn183 : FnOk Tryz.prog 183 Tryz.f183 := ⟨Tryz.func183, fun _ _ => Tryz.call183⟩
theorem fn184 : FnOk Tryz.prog 184 Tryz.f184 := ⟨Tryz.func184, fun _ _ => Tryz.call184⟩
theorem fn185 : FnOk Tryz.prog 185 Tryz.f185 := ⟨Tryz.func185, fun _ _ => Tryz.call185⟩
theorem fn186 : FnOk Tryz.prog 186 Tryz.f186 := ⟨Tryz.func186, fun _ _ => Tryz.call186⟩
theorem fn187 : FnOk Tryz.prog 187 Tryz.f187 := ⟨Tryz.func187, fun _ _ => Tryz.call187⟩
theorem fn188 : FnOk Tryz.prog 188 Tryz.f188 := ⟨Tryz.func188, fun _ _ => Tryz.call188⟩
theorem fn189 : FnOk Tryz.prog 189 Tryz.f189 := ⟨Tryz.func189, fun _ _ => Tryz.call189⟩
theorem fn190 : FnOk Tryz.prog 190 Tryz.f190 := ⟨Tryz.func190, fun _ _ => Tryz.call190⟩
theorem fn191 : FnOk Tryz.prog 191 Tryz.f191 := ⟨Tryz.func191, fun _ _ => Tryz.call191⟩
theorem fn192 : FnOk Tryz.prog 192 Tryz.f192 := ⟨Tryz.func192, fun _ _ => Tryz.call192⟩
theorem fn193 : FnOk Tryz.prog 193 Tryz.f193 := ⟨Tryz.func193, fun _ _ => Tryz.call193⟩
theorem fn194 : FnOk Tryz.prog 194 Tryz.f194 := ⟨Tryz.func194, fun _ _ => Tryz.call194⟩
theorem fn195 : FnOk Tryz.prog 195 Tryz.f195 := ⟨Tryz.func195, fun _ _ => Tryz.call195⟩
theorem fn196 : FnOk Tryz.prog 196 Tryz.f196 := ⟨Tryz.func196, fun _ _ => Tryz.call196⟩
theorem fn197 : FnOk Tryz.prog 197 Tryz.f197 := ⟨Tryz.func197, fun _ _ => Tryz.call197⟩
theorem fn198 : FnOk Tryz.prog 198 Tryz.f198 := ⟨Tryz.func198, fun _ _ => Tryz.call198⟩
theorem fn199 : FnOk Tryz.prog 199 Tryz.f199 := ⟨Tryz.func199, fun _ _ => Tryz.call199⟩
theorem fn200 : FnOk Tryz.prog 200 Tryz.f200 := ⟨Tryz.func200, fun _ _ => Tryz.call200⟩
theorem fn201 : FnOk Tryz.prog 201 Tryz.f201 := ⟨Tryz.func201, fun _ _ => Tryz.call201⟩
theorem fn202 : FnOk Tryz.prog 202 Tryz.f202 := ⟨Tryz.func202, fun _ _ => Tryz.call202⟩
theorem fn203 : FnOk Tryz.prog 203 Tryz.f203 := fn_none Tryz.func203 rfl
theorem fn204 : FnOk Tryz.prog 204 Tryz.f204 := ⟨Tryz.func204, fun _ _ => Tryz.call204⟩
theorem fn205 : FnOk Tryz.prog 205 Tryz.f205 := ⟨Tryz.func205, fun _ _ => Tryz.call205⟩
theorem fn206 : FnOk Tryz.prog 206 Tryz.f206 := ⟨Tryz.func206, fun _ _ => Tryz.call206⟩
theorem fn207 : FnOk Tryz.prog 207 Tryz.f207 := ⟨Tryz.func207, fun _ _ => Tryz.call207⟩
theorem fn208 : FnOk Tryz.prog 208 Tryz.f208 := ⟨Tryz.func208, fun _ _ => Tryz.call208⟩
theorem fn209 : FnOk Tryz.prog 209 Tryz.f209 := ⟨Tryz.func209, fun _ _ => Tryz.call209⟩
theorem fn210 : FnOk Tryz.prog 210 Tryz.f210 := ⟨Tryz.func210, fun _ _ => Tryz.call210⟩
theorem fn211 : FnOk Tryz.prog 211 Tryz.f211 := ⟨Tryz.func211, fun _ _ => Tryz.call211⟩
theorem fn212 : FnOk Tryz.prog 212 Tryz.f212 := ⟨Tryz.func212, fun _ _ => Tryz.call212⟩
theorem fn213 : FnOk Tryz.prog 213 Tryz.f213 := ⟨Tryz.func213, fun _ _ => Tryz.call213⟩
theorem fn214 : FnOk Tryz.prog 214 Tryz.f214 := ⟨Tryz.func214, fun _ _ => Tryz.call214⟩
theorem fn215 : FnOk Tryz.prog 215 Tryz.f215 := ⟨Tryz.func215, fun _ _ => Tryz.call215⟩
theorem fn216 : FnOk Tryz.prog 216 Tryz.f216 := fn_none Tryz.func216 rfl
theorem fn217 : FnOk Tryz.prog 217 Tryz.f217 := ⟨Tryz.func217, fun _ _ => Tryz.call217⟩
theorem fn218 : FnOk Tryz.prog 218 Tryz.f218 := ⟨Tryz.func218, fun _ _ => Tryz.call218⟩
theorem fn219 : FnOk Tryz.prog 219 Tryz.f219 := ⟨Tryz.func219, fun _ _ => Tryz.call219⟩
theorem fn220 : FnOk Tryz.prog 220 Tryz.f220 := ⟨Tryz.func220, fun _ _ => Tryz.call220⟩
theorem fn221 : FnOk Tryz.prog 221 Tryz.f221 := ⟨Tryz.func221, fun _ _ => Tryz.call221⟩
theorem fn222 : FnOk Tryz.prog 222 Tryz.f222 := ⟨Tryz.func222, fun _ _ => Tryz.call222⟩
theorem fn223 : FnOk Tryz.prog 223 Tryz.f223 := ⟨Tryz.func223, fun _ _ => Tryz.call223⟩
theorem fn224 : FnOk Tryz.prog 224 Tryz.f224 := fn_none Tryz.func224 rfl
theorem fn225 : FnOk Tryz.prog 225 Tryz.f225 := ⟨Tryz.func225, fun _ _ => Tryz.call225⟩
theorem fn226 : FnOk Tryz.prog 226 Tryz.f226 := ⟨Tryz.func226, fun _ _ => Tryz.call226⟩
theorem fn227 : FnOk Tryz.prog 227 Tryz.f227 := ⟨Tryz.func227, fun _ _ => Tryz.call227⟩
theorem fn228 : FnOk Tryz.prog 228 Tryz.f228 := ⟨Tryz.func228, fun _ _ => Tryz.call228⟩
theorem fn229 : FnOk Tryz.prog 229 Tryz.f229 := ⟨Tryz.func229, fun _ _ => Tryz.call229⟩
theorem fn230 : FnOk Tryz.prog 230 Tryz.f230 := ⟨Tryz.func230, fun _ _ => Tryz.call230⟩
theorem fn231 : FnOk Tryz.prog 231 Tryz.f231 := ⟨Tryz.func231, fun _ _ => Tryz.call231⟩
theorem fn232 : FnOk Tryz.prog 232 Tryz.f232 := ⟨Tryz.func232, fun _ _ => Tryz.call232⟩
theorem fn233 : FnOk Tryz.prog 233 Tryz.f233 := ⟨Tryz.func233, fun _ _ => Tryz.call233⟩
theorem fn234 : FnOk Tryz.prog 234 Tryz.f234 := ⟨Tryz.func234, fun _ _ => Tryz.call234⟩
theorem fn235 : FnOk Tryz.prog 235 Tryz.f235 := ⟨Tryz.func235, fun _ _ => Tryz.call235⟩
theorem fn236 : FnOk Tryz.prog 236 Tryz.f236 := fn_none Tryz.func236 rfl
theorem fn237 : FnOk Tryz.prog 237 Tryz.f237 := fn_none Tryz.func237 rfl
theorem fn238 : FnOk Tryz.prog 238 Tryz.f238 := fn_none Tryz.func238 rfl
theorem fn239 : FnOk Tryz.prog 239 Tryz.f239 := fn_none Tryz.func239 rfl
theorem fn240 : FnOk Tryz.prog 240 Tryz.f240 := fn_none Tryz.func240 rfl
theorem fn241 : FnOk Tryz.prog 241 Tryz.f241 := fn_none Tryz.func241 rfl
theorem fn242 : FnOk Tryz.prog 242 Tryz.f242 := fn_none Tryz.func242 rfl
theorem fn243 : FnOk Tryz.prog 243 Tryz.f243 := fn_none Tryz.func243 rfl
theorem fn244 : FnOk Tryz.prog 244 Tryz.f244 := fn_none Tryz.func244 rfl
theorem fn245 : FnOk Tryz.prog 245 Tryz.f245 := fn_none Tryz.func245 rfl
theorem fn246 : FnOk Tryz.prog 246 Tryz.f246 := fn_none Tryz.func246 rfl
theorem fn247 : FnOk Tryz.prog 247 Tryz.f247 := fn_none Tryz.func247 rfl
theorem fn248 : FnOk Tryz.prog 248 Tryz.f248 := fn_none Tryz.func248 rfl
theorem fn249 : FnOk Tryz.prog 249 Tryz.f249 := fn_none Tryz.func249 rfl
theorem fn250 : FnOk Tryz.prog 250 Tryz.f250 := fn_none Tryz.func250 rfl
theorem fn251 : FnOk Tryz.prog 251 Tryz.f251 := fn_none Tryz.func251 rfl
theorem fn252 : FnOk Tryz.prog 252 Tryz.f252 := ⟨Tryz.func252, fun _ _ => Tryz.call252⟩
theorem fn253 : FnOk Tryz.prog 253 Tryz.f253 := fn_none Tryz.func253 rfl
theorem fn254 : FnOk Tryz.prog 254 Tryz.f254 := fn_none Tryz.func254 rfl
theorem fn255 : FnOk Tryz.prog 255 Tryz.f255 := fn_none Tryz.func255 rfl
theorem fn256 : FnOk Tryz.prog 256 Tryz.f256 := fn_none Tryz.func256 rfl
theorem fn257 : FnOk Tryz.prog 257 Tryz.f257 := fn_none Tryz.func257 rfl
theorem fn258 : FnOk Tryz.prog 258 Tryz.f258 := fn_none Tryz.func258 rfl
theorem fn259 : FnOk Tryz.prog 259 Tryz.f259 := fn_none Tryz.func259 rfl
theorem fn260 : FnOk Tryz.prog 260 Tryz.f260 := fn_none Tryz.func260 rfl
theorem fn261 : FnOk Tryz.prog 261 Tryz.f261 := fn_none Tryz.func261 rfl
theorem fn262 : FnOk Tryz.prog 262 Tryz.f262 := fn_none Tryz.func262 rfl
theorem fn263 : FnOk Tryz.prog 263 Tryz.f263 := fn_none Tryz.func263 rfl
theorem fn264 : FnOk Tryz.prog 264 Tryz.f264 := fn_none Tryz.func264 rfl
theorem fn265 : FnOk Tryz.prog 265 Tryz.f265 := fn_none Tryz.func265 rfl
theorem fn266 : FnOk Tryz.prog 266 Tryz.f266 := fn_none Tryz.func266 rfl
theorem fn267 : FnOk Tryz.prog 267 Tryz.f267 := fn_none Tryz.func267 rfl
theorem fn268 : FnOk Tryz.prog 268 Tryz.f268 := fn_none Tryz.func268 rfl
theorem fn269 : FnOk Tryz.prog 269 Tryz.f269 := fn_none Tryz.func269 rfl
theorem fn270 : FnOk Tryz.prog 270 Tryz.f270 := fn_none Tryz.func270 rfl
theorem fn271 : FnOk Tryz.prog 271 Tryz.f271 := fn_none Tryz.func271 rfl
theorem fn272 : FnOk Tryz.prog 272 Tryz.f272 := fn_none Tryz.func272 rfl
theorem fn273 : FnOk Tryz.prog 273 Tryz.f273 := ⟨Tryz.func273, fun _ _ => Tryz.call273⟩
theorem ext115 : ExtOk Tryz.prog 115 sameY := ext_same Tryz.func115 (by decide +kernel) rfl (by kernel_rfl) (by kernel_rfl)
theorem ext203 : ExtOk Tryz.prog 203 countY := ext_count Tryz.func203 (by decide +kernel) rfl (by kernel_rfl) (by kernel_rfl)
theorem ext216 : ExtOk Tryz.prog 216 indexByteY := ext_index Tryz.func216 (by decide +kernel) rfl (by kernel_rfl) (by kernel_rfl)
theorem nz172 : NzOk Tryz.prog 172 5 := nz_ok (ps := #[3]) (t := 97) Tryz.func172 (by decide +kernel) rfl (by kernel_rfl) (by kernel_rfl) Tryz.underlying97
theorem mth48x252 : MthOk Tryz.prog 48 "Value" 252 := mth_ok (by kernel_rfl)
noncomputable def tyT : Tr TI := (.n (some ⟨Tryz.t0.desc, Tryz.t0, none⟩) (.n (some ⟨Tryz.t1.desc, Tryz.t1, none⟩) (.n (some ⟨Tryz.t3.desc, Tryz.t3, none⟩) (.n (some ⟨Tryz.t7.desc, Tryz.t7, some [.i, .i, .b, .i]⟩) (.n (some ⟨Tryz.t15.desc, Tryz.t15, none⟩) (.n (some ⟨Tryz.t30.desc, Tryz.t31, none⟩) (.n (some ⟨Tryz.t63.desc, Tryz.t63, some [.i, .i, .s]⟩) (.n (some ⟨Tryz.t127.desc, Tryz.t127, none⟩) (.n (some ⟨Tryz.t255.desc, Tryz.t255, none⟩) .e .e) .e) (.n (some ⟨Tryz.t191.desc, Tryz.t191, none⟩) .e .e)) (.n (some ⟨Tryz.t95.desc, Tryz.t95, none⟩) (.n (some ⟨Tryz.t159.desc, Tryz.t159, none⟩) (.n (some ⟨Tryz.t287.desc, Tryz.t287, some [.s]⟩) .e .e) .e) (.n (some ⟨Tryz.t223.desc, Tryz.t223, none⟩) .e .e))) (.n (some ⟨Tryz.t47.desc, Tryz.t47, none⟩) (.n (some ⟨Tryz.t79.desc, Tryz.t79, none⟩) (.n (some ⟨Tryz.t143.desc, Tryz.t143, none⟩) (.n (some ⟨Tryz.t271.desc, Tryz.t271, none⟩) .e .e) .e) (.n (some ⟨Tryz.t207.desc, Tryz.t207, none⟩) .e .e)) (.n (some ⟨Tryz.t110.desc, Tryz.t111, some [.s, .s]⟩) (.n (some ⟨Tryz.t175.desc, Tryz.t175, none⟩) (.n (some ⟨Tryz.t5.desc, Tryz.t303, none⟩) .e .e) .e) (.n (some ⟨Tryz.t239.desc, Tryz.t239, none⟩) .e .e)))) (.n (some ⟨Tryz.t23.desc, Tryz.t23, some [.i, .s, .s]⟩) (.n (some ⟨Tryz.t39.desc, Tryz.t39, none⟩) (.n (some ⟨Tryz.t71.desc, Tryz.t71, none⟩) (.n (some ⟨Tryz.t135.desc, Tryz.t135, none⟩) (.n (some ⟨Tryz.t263.desc, Tryz.t263, none⟩) .e .e) .e) (.n (some ⟨Tryz.t199.desc, Tryz.t199, none⟩) .e .e)) (.n (some ⟨Tryz.t103.desc, Tryz.t103, none⟩) (.n (some ⟨Tryz.t167.desc, Tryz.t167, none⟩) (.n (some ⟨Tryz.t295.desc, Tryz.t295, none⟩) .e .e) .e) (.n (some ⟨Tryz.t231.desc, Tryz.t231, none⟩) .e .e))) (.n (some ⟨Tryz.t55.desc, Tryz.t55, none⟩) (.n (some ⟨Tryz.t87.desc, Tryz.t87, none⟩) (.n (some ⟨Tryz.t150.desc, Tryz.t151, some [.i, .s, .i]⟩) (.n (some ⟨Tryz.t279.desc, Tryz.t279, none⟩) .e .e) .e) (.n (some ⟨Tryz.t215.desc, Tryz.t215, none⟩) .e .e)) (.n (some ⟨Tryz.t119.desc, Tryz.t119, none⟩) (.n (some ⟨Tryz.t183.desc, Tryz.t183, none⟩) .e .e) (.n (some ⟨Tryz.t247.desc, Tryz.t247, none⟩) .e .e))))) (.n (some ⟨Tryz.t9.desc, Tryz.t11, none⟩) (.n (some ⟨Tryz.t18.desc, Tryz.t19, none⟩) (.n (some ⟨Tryz.t34.desc, Tryz.t35, some [.i, .i]⟩) (.n (some ⟨Tryz.t67.desc, Tryz.t67, none⟩) (.n (some ⟨Tryz.t131.desc, Tryz.t131, none⟩) (.n (some ⟨Tryz.t259.desc, Tryz.t259, none⟩) .e .e) .e) (.n (some ⟨Tryz.t195.desc, Tryz.t195, none⟩) .e .e)) (.n (some ⟨Tryz.t98.desc, Tryz.t99, none⟩) (.n (some ⟨Tryz.t163.desc, Tryz.t163, none⟩) (.n (some ⟨Tryz.t291.desc, Tryz.t291, none⟩) .e .e) .e) (.n (some ⟨Tryz.t227.desc, Tryz.t227, none⟩) .e .e))) (.n (some ⟨Tryz.t51.desc, Tryz.t51, none⟩) (.n (some ⟨Tryz.t83.desc, Tryz.t83, none⟩) (.n (some ⟨Tryz.t147.desc, Tryz.t147, none⟩) (.n (some ⟨Tryz.t275.desc, Tryz.t275, none⟩) .e .e) .e) (.n (some ⟨Tryz.t211.desc, Tryz.t211, none⟩) .e .e)) (.n (some ⟨Tryz.t115.desc, Tryz.t115, none⟩) (.n (some ⟨Tryz.t179.desc, Tryz.t179, none⟩) (.n (some ⟨Tryz.t307.desc, Tryz.t307, none⟩) .e .e) .e) (.n (some ⟨Tryz.t243.desc, Tryz.t243, none⟩) .e .e)))) (.n (some ⟨Tryz.t27.desc, Tryz.t27, none⟩) (.n (some ⟨Tryz.t43.desc, Tryz.t43, none⟩) (.n (some ⟨Tryz.t75.desc, Tryz.t75, none⟩) (.n (some ⟨Tryz.t139.desc, Tryz.t139, none⟩) (.n (some ⟨Tryz.t267.desc, Tryz.t267, some [.i, .i]⟩) .e .e) .e) (.n (some ⟨Tryz.t203.desc, Tryz.t203, none⟩) .e .e)) (.n (some ⟨Tryz.t107.desc, Tryz.t107, none⟩) (.n (some ⟨Tryz.t171.desc, Tryz.t171, some [.i, .i, .i]⟩) (.n (some ⟨Tryz.t299.desc, Tryz.t299, none⟩) .e .e) .e) (.n (some ⟨Tryz.t235.desc, Tryz.t235, none⟩) .e .e))) (.n (some ⟨Tryz.t59.desc, Tryz.t59, none⟩) (.n (some ⟨Tryz.t91.desc, Tryz.t91, none⟩) (.n (some ⟨Tryz.t155.desc, Tryz.t155, none⟩) (.n (some ⟨Tryz.t283.desc, Tryz.t283, none⟩) .e .e) .e) (.n (some ⟨Tryz.t219.desc, Tryz.t219, none⟩) .e .e)) (.n (some ⟨Tryz.t122.desc, Tryz.t123, some [.i, .i]⟩) (.n (some ⟨Tryz.t187.desc, Tryz.t187, none⟩) .e .e) (.n (some ⟨Tryz.t251.desc, Tryz.t251, none⟩) .e .e)))))) (.n (some ⟨Tryz.t5.desc, Tryz.t5, none⟩) (.n (some ⟨Tryz.t9.desc, Tryz.t9, none⟩) (.n (some ⟨Tryz.t17.desc, Tryz.t17, none⟩) (.n (some ⟨Tryz.t33.desc, Tryz.t33, none⟩) (.n (some ⟨Tryz.t65.desc, Tryz.t65, none⟩) (.n (some ⟨Tryz.t129.desc, Tryz.t129, none⟩) (.n (some ⟨Tryz.t257.desc, Tryz.t257, none⟩) .e .e) .e) (.n (some ⟨Tryz.t193.desc, Tryz.t193, none⟩) .e .e)) (.n (some ⟨Tryz.t97.desc, Tryz.t97, none⟩) (.n (some ⟨Tryz.t161.desc, Tryz.t161, none⟩) (.n (some ⟨Tryz.t289.desc, Tryz.t289, none⟩) .e .e) .e) (.n (some ⟨Tryz.t225.desc, Tryz.t225, none⟩) .e .e))) (.n (some ⟨Tryz.t49.desc, Tryz.t49, none⟩) (.n (some ⟨Tryz.t81.desc, Tryz.t81, none⟩) (.n (some ⟨Tryz.t145.desc, Tryz.t145, none⟩) (.n (some ⟨Tryz.t273.desc, Tryz.t273, none⟩) .e .e) .e) (.n (some ⟨Tryz.t209.desc, Tryz.t209, none⟩) .e .e)) (.n (some ⟨Tryz.t113.desc, Tryz.t113, none⟩) (.n (some ⟨Tryz.t177.desc, Tryz.t177, none⟩) (.n (some ⟨Tryz.t21.desc, Tryz.t305, none⟩) .e .e) .e) (.n (some ⟨Tryz.t241.desc, Tryz.t241, none⟩) .e .e)))) (.n (some ⟨Tryz.t3.desc, Tryz.t25, none⟩) (.n (some ⟨Tryz.t40.desc, Tryz.t41, some [.i, .i, .i, .i, .i, .i, .i, .i]⟩) (.n (some ⟨Tryz.t73.desc, Tryz.t73, none⟩) (.n (some ⟨Tryz.t137.desc, Tryz.t137, none⟩) (.n (some ⟨Tryz.t265.desc, Tryz.t265, none⟩) .e .e) .e) (.n (some ⟨Tryz.t201.desc, Tryz.t201, none⟩) .e .e)) (.n (some ⟨Tryz.t105.desc, Tryz.t105, none⟩) (.n (some ⟨Tryz.t168.desc, Tryz.t169, some [.i, .i, .i]⟩) (.n (some ⟨Tryz.t297.desc, Tryz.t297, none⟩) .e .e) .e) (.n (some ⟨Tryz.t205.desc, Tryz.t233, none⟩) .e .e))) (.n (some ⟨Tryz.t57.desc, Tryz.t57, none⟩) (.n (some ⟨Tryz.t89.desc, Tryz.t89, none⟩) (.n (some ⟨Tryz.t153.desc, Tryz.t153, none⟩) (.n (some ⟨Tryz.t281.desc, Tryz.t281, none⟩) .e .e) .e) (.n (some ⟨Tryz.t217.desc, Tryz.t217, none⟩) .e .e)) (.n (some ⟨Tryz.t121.desc, Tryz.t121, none⟩) (.n (some ⟨Tryz.t185.desc, Tryz.t185, none⟩) .e .e) (.n (some ⟨Tryz.t249.desc, Tryz.t249, none⟩) .e .e))))) (.n (some ⟨Tryz.t13.desc, Tryz.t13, none⟩) (.n (some ⟨Tryz.t21.desc, Tryz.t21, none⟩) (.n (some ⟨Tryz.t37.desc, Tryz.t37, none⟩) (.n (some ⟨Tryz.t69.desc, Tryz.t69, none⟩) (.n (some ⟨Tryz.t133.desc, Tryz.t133, none⟩) (.n (some ⟨Tryz.t261.desc, Tryz.t261, none⟩) .e .e) .e) (.n (some ⟨Tryz.t197.desc, Tryz.t197, none⟩) .e .e)) (.n (some ⟨Tryz.t100.desc, Tryz.t101, none⟩) (.n (some ⟨Tryz.t165.desc, Tryz.t165, none⟩) (.n (some ⟨Tryz.t293.desc, Tryz.t293, none⟩) .e .e) .e) (.n (some ⟨Tryz.t229.desc, Tryz.t229, none⟩) .e .e))) (.n (some ⟨Tryz.t53.desc, Tryz.t53, none⟩) (.n (some ⟨Tryz.t85.desc, Tryz.t85, none⟩) (.n (some ⟨Tryz.t149.desc, Tryz.t149, none⟩) (.n (some ⟨Tryz.t277.desc, Tryz.t277, none⟩) .e .e) .e) (.n (some ⟨Tryz.t213.desc, Tryz.t213, none⟩) .e .e)) (.n (some ⟨Tryz.t117.desc, Tryz.t117, none⟩) (.n (some ⟨Tryz.t181.desc, Tryz.t181, none⟩) (.n (some ⟨Tryz.t309.desc, Tryz.t309, some [.s, .s, .s]⟩) .e .e) .e) (.n (some ⟨Tryz.t245.desc, Tryz.t245, none⟩) .e .e)))) (.n (some ⟨Tryz.t29.desc, Tryz.t29, none⟩) (.n (some ⟨Tryz.t45.desc, Tryz.t45, none⟩) (.n (some ⟨Tryz.t76.desc, Tryz.t77, none⟩) (.n (some ⟨Tryz.t141.desc, Tryz.t141, none⟩) (.n (some ⟨Tryz.t269.desc, Tryz.t269, none⟩) .e .e) .e) (.n (some ⟨Tryz.t205.desc, Tryz.t205, none⟩) .e .e)) (.n (some ⟨Tryz.t109.desc, Tryz.t109, none⟩) (.n (some ⟨Tryz.t173.desc, Tryz.t173, none⟩) (.n (some ⟨Tryz.t300.desc, Tryz.t301, none⟩) .e .e) .e) (.n (some ⟨Tryz.t237.desc, Tryz.t237, none⟩) .e .e))) (.n (some ⟨Tryz.t61.desc, Tryz.t61, none⟩) (.n (some ⟨Tryz.t93.desc, Tryz.t93, none⟩) (.n (some ⟨Tryz.t157.desc, Tryz.t157, none⟩) (.n (some ⟨Tryz.t285.desc, Tryz.t285, none⟩) .e .e) .e) (.n (some ⟨Tryz.t221.desc, Tryz.t221, some [.b, .s, .i]⟩) .e .e)) (.n (some ⟨Tryz.t125.desc, Tryz.t125, none⟩) (.n (some ⟨Tryz.t189.desc, Tryz.t189, none⟩) .e .e) (.n (some ⟨Tryz.t253.desc, Tryz.t253, none⟩) .e .e))))))) (.n (some ⟨Tryz.t2.desc, Tryz.t2, none⟩) (.n (some ⟨Tryz.t4.desc, Tryz.t4, none⟩) (.n (some ⟨Tryz.t7.desc, Tryz.t8, some [.i, .i, .b, .i]⟩) (.n (some ⟨Tryz.t16.desc, Tryz.t16, none⟩) (.n (some ⟨Tryz.t32.desc, Tryz.t32, none⟩) (.n (some ⟨Tryz.t63.desc, Tryz.t64, some [.i, .i, .s]⟩) (.n (some ⟨Tryz.t128.desc, Tryz.t128, none⟩) (.n (some ⟨Tryz.t3.desc, Tryz.t256, none⟩) .e .e) .e) (.n (some ⟨Tryz.t192.desc, Tryz.t192, none⟩) .e .e)) (.n (some ⟨Tryz.t96.desc, Tryz.t96, none⟩) (.n (some ⟨Tryz.t160.desc, Tryz.t160, none⟩) (.n (some ⟨Tryz.t287.desc, Tryz.t288, some [.s]⟩) .e .e) .e) (.n (some ⟨Tryz.t224.desc, Tryz.t224, none⟩) .e .e))) (.n (some ⟨Tryz.t47.desc, Tryz.t48, none⟩) (.n (some ⟨Tryz.t80.desc, Tryz.t80, none⟩) (.n (some ⟨Tryz.t144.desc, Tryz.t144, none⟩) (.n (some ⟨Tryz.t272.desc, Tryz.t272, none⟩) .e .e) .e) (.n (some ⟨Tryz.t208.desc, Tryz.t208, none⟩) .e .e)) (.n (some ⟨Tryz.t112.desc, Tryz.t112, none⟩) (.n (some ⟨Tryz.t176.desc, Tryz.t176, none⟩) (.n (some ⟨Tryz.t304.desc, Tryz.t304, none⟩) .e .e) .e) (.n (some ⟨Tryz.t240.desc, Tryz.t240, none⟩) .e .e)))) (.n (some ⟨Tryz.t23.desc, Tryz.t24, some [.i, .s, .s]⟩) (.n (some ⟨Tryz.t40.desc, Tryz.t40, some [.i, .i, .i, .i, .i, .i, .i, .i]⟩) (.n (some ⟨Tryz.t72.desc, Tryz.t72, none⟩) (.n (some ⟨Tryz.t136.desc, Tryz.t136, none⟩) (.n (some ⟨Tryz.t264.desc, Tryz.t264, none⟩) .e .e) .e) (.n (some ⟨Tryz.t200.desc, Tryz.t200, none⟩) .e .e)) (.n (some ⟨Tryz.t104.desc, Tryz.t104, none⟩) (.n (some ⟨Tryz.t168.desc, Tryz.t168, some [.i, .i, .i]⟩) (.n (some ⟨Tryz.t295.desc, Tryz.t296, none⟩) .e .e) .e) (.n (some ⟨Tryz.t232.desc, Tryz.t232, none⟩) .e .e))) (.n (some ⟨Tryz.t56.desc, Tryz.t56, none⟩) (.n (some ⟨Tryz.t88.desc, Tryz.t88, none⟩) (.n (some ⟨Tryz.t152.desc, Tryz.t152, none⟩) (.n (some ⟨Tryz.t279.desc, Tryz.t280, none⟩) .e .e) .e) (.n (some ⟨Tryz.t216.desc, Tryz.t216, none⟩) .e .e)) (.n (some ⟨Tryz.t120.desc, Tryz.t120, none⟩) (.n (some ⟨Tryz.t184.desc, Tryz.t184, none⟩) .e .e) (.n (some ⟨Tryz.t248.desc, Tryz.t248, none⟩) .e .e))))) (.n (some ⟨Tryz.t12.desc, Tryz.t12, none⟩) (.n (some ⟨Tryz.t20.desc, Tryz.t20, none⟩) (.n (some ⟨Tryz.t36.desc, Tryz.t36, none⟩) (.n (some ⟨Tryz.t68.desc, Tryz.t68, none⟩) (.n (some ⟨Tryz.t132.desc, Tryz.t132, none⟩) (.n (some ⟨Tryz.t260.desc, Tryz.t260, none⟩) .e .e) .e) (.n (some ⟨Tryz.t3.desc, Tryz.t196, none⟩) .e .e)) (.n (some ⟨Tryz.t100.desc, Tryz.t100, none⟩) (.n (some ⟨Tryz.t164.desc, Tryz.t164, none⟩) (.n (some ⟨Tryz.t292.desc, Tryz.t292, none⟩) .e .e) .e) (.n (some ⟨Tryz.t228.desc, Tryz.t228, none⟩) .e .e))) (.n (some ⟨Tryz.t52.desc, Tryz.t52, none⟩) (.n (some ⟨Tryz.t84.desc, Tryz.t84, none⟩) (.n (some ⟨Tryz.t148.desc, Tryz.t148, none⟩) (.n (some ⟨Tryz.t275.desc, Tryz.t276, none⟩) .e .e) .e) (.n (some ⟨Tryz.t212.desc, Tryz.t212, none⟩) .e .e)) (.n (some ⟨Tryz.t116.desc, Tryz.t116, none⟩) (.n (some ⟨Tryz.t180.desc, Tryz.t180, none⟩) (.n (some ⟨Tryz.t307.desc, Tryz.t308, none⟩) .e .e) .e) (.n (some ⟨Tryz.t244.desc, Tryz.t244, none⟩) .e .e)))) (.n (some ⟨Tryz.t28.desc, Tryz.t28, none⟩) (.n (some ⟨Tryz.t44.desc, Tryz.t44, none⟩) (.n (some ⟨Tryz.t76.desc, Tryz.t76, none⟩) (.n (some ⟨Tryz.t140.desc, Tryz.t140, none⟩) (.n (some ⟨Tryz.t267.desc, Tryz.t268, some [.i, .i]⟩) .e .e) .e) (.n (some ⟨Tryz.t204.desc, Tryz.t204, none⟩) .e .e)) (.n (some ⟨Tryz.t108.desc, Tryz.t108, none⟩) (.n (some ⟨Tryz.t171.desc, Tryz.t172, some [.i, .i, .i]⟩) (.n (some ⟨Tryz.t300.desc, Tryz.t300, none⟩) .e .e) .e) (.n (some ⟨Tryz.t236.desc, Tryz.t236, none⟩) .e .e))) (.n (some ⟨Tryz.t60.desc, Tryz.t60, none⟩) (.n (some ⟨Tryz.t92.desc, Tryz.t92, none⟩) (.n (some ⟨Tryz.t156.desc, Tryz.t156, none⟩) (.n (some ⟨Tryz.t284.desc, Tryz.t284, none⟩) .e .e) .e) (.n (some ⟨Tryz.t219.desc, Tryz.t220, none⟩) .e .e)) (.n (some ⟨Tryz.t124.desc, Tryz.t124, none⟩) (.n (some ⟨Tryz.t188.desc, Tryz.t188, none⟩) .e .e) (.n (some ⟨Tryz.t252.desc, Tryz.t252, none⟩) .e .e)))))) (.n (some ⟨Tryz.t5.desc, Tryz.t6, none⟩) (.n (some ⟨Tryz.t9.desc, Tryz.t10, none⟩) (.n (some ⟨Tryz.t18.desc, Tryz.t18, none⟩) (.n (some ⟨Tryz.t34.desc, Tryz.t34, some [.i, .i]⟩) (.n (some ⟨Tryz.t66.desc, Tryz.t66, none⟩) (.n (some ⟨Tryz.t130.desc, Tryz.t130, none⟩) (.n (some ⟨Tryz.t258.desc, Tryz.t258, none⟩) .e .e) .e) (.n (some ⟨Tryz.t194.desc, Tryz.t194, none⟩) .e .e)) (.n (some ⟨Tryz.t98.desc, Tryz.t98, none⟩) (.n (some ⟨Tryz.t162.desc, Tryz.t162, none⟩) (.n (some ⟨Tryz.t290.desc, Tryz.t290, none⟩) .e .e) .e) (.n (some ⟨Tryz.t226.desc, Tryz.t226, none⟩) .e .e))) (.n (some ⟨Tryz.t50.desc, Tryz.t50, none⟩) (.n (some ⟨Tryz.t81.desc, Tryz.t82, none⟩) (.n (some ⟨Tryz.t146.desc, Tryz.t146, none⟩) (.n (some ⟨Tryz.t274.desc, Tryz.t274, none⟩) .e .e) .e) (.n (some ⟨Tryz.t210.desc, Tryz.t210, none⟩) .e .e)) (.n (some ⟨Tryz.t114.desc, Tryz.t114, none⟩) (.n (some ⟨Tryz.t178.desc, Tryz.t178, none⟩) (.n (some ⟨Tryz.t21.desc, Tryz.t306, none⟩) .e .e) .e) (.n (some ⟨Tryz.t242.desc, Tryz.t242, none⟩) .e .e)))) (.n (some ⟨Tryz.t26.desc, Tryz.t26, none⟩) (.n (some ⟨Tryz.t42.desc, Tryz.t42, none⟩) (.n (some ⟨Tryz.t74.desc, Tryz.t74, none⟩) (.n (some ⟨Tryz.t138.desc, Tryz.t138, none⟩) (.n (some ⟨Tryz.t266.desc, Tryz.t266, none⟩) .e .e) .e) (.n (some ⟨Tryz.t202.desc, Tryz.t202, none⟩) .e .e)) (.n (some ⟨Tryz.t106.desc, Tryz.t106, none⟩) (.n (some ⟨Tryz.t170.desc, Tryz.t170, none⟩) (.n (some ⟨Tryz.t297.desc, Tryz.t298, none⟩) .e .e) .e) (.n (some ⟨Tryz.t234.desc, Tryz.t234, none⟩) .e .e))) (.n (some ⟨Tryz.t58.desc, Tryz.t58, none⟩) (.n (some ⟨Tryz.t90.desc, Tryz.t90, none⟩) (.n (some ⟨Tryz.t154.desc, Tryz.t154, none⟩) (.n (some ⟨Tryz.t282.desc, Tryz.t282, none⟩) .e .e) .e) (.n (some ⟨Tryz.t218.desc, Tryz.t218, none⟩) .e .e)) (.n (some ⟨Tryz.t122.desc, Tryz.t122, some [.i, .i]⟩) (.n (some ⟨Tryz.t186.desc, Tryz.t186, none⟩) .e .e) (.n (some ⟨Tryz.t250.desc, Tryz.t250, none⟩) .e .e))))) (.n (some ⟨Tryz.t13.desc, Tryz.t14, none⟩) (.n (some ⟨Tryz.t22.desc, Tryz.t22, none⟩) (.n (some ⟨Tryz.t38.desc, Tryz.t38, none⟩) (.n (some ⟨Tryz.t69.desc, Tryz.t70, none⟩) (.n (some ⟨Tryz.t134.desc, Tryz.t134, none⟩) (.n (some ⟨Tryz.t262.desc, Tryz.t262, none⟩) .e .e) .e) (.n (some ⟨Tryz.t198.desc, Tryz.t198, none⟩) .e .e)) (.n (some ⟨Tryz.t102.desc, Tryz.t102, none⟩) (.n (some ⟨Tryz.t165.desc, Tryz.t166, none⟩) (.n (some ⟨Tryz.t293.desc, Tryz.t294, none⟩) .e .e) .e) (.n (some ⟨Tryz.t230.desc, Tryz.t230, none⟩) .e .e))) (.n (some ⟨Tryz.t54.desc, Tryz.t54, none⟩) (.n (some ⟨Tryz.t86.desc, Tryz.t86, none⟩) (.n (some ⟨Tryz.t150.desc, Tryz.t150, some [.i, .s, .i]⟩) (.n (some ⟨Tryz.t278.desc, Tryz.t278, none⟩) .e .e) .e) (.n (some ⟨Tryz.t214.desc, Tryz.t214, none⟩) .e .e)) (.n (some ⟨Tryz.t118.desc, Tryz.t118, none⟩) (.n (some ⟨Tryz.t182.desc, Tryz.t182, none⟩) (.n (some ⟨Tryz.t309.desc, Tryz.t310, some [.s, .s, .s]⟩) .e .e) .e) (.n (some ⟨Tryz.t246.desc, Tryz.t246, none⟩) .e .e)))) (.n (some ⟨Tryz.t30.desc, Tryz.t30, none⟩) (.n (some ⟨Tryz.t46.desc, Tryz.t46, none⟩) (.n (some ⟨Tryz.t78.desc, Tryz.t78, none⟩) (.n (some ⟨Tryz.t142.desc, Tryz.t142, none⟩) (.n (some ⟨Tryz.t270.desc, Tryz.t270, none⟩) .e .e) .e) (.n (some ⟨Tryz.t206.desc, Tryz.t206, none⟩) .e .e)) (.n (some ⟨Tryz.t110.desc, Tryz.t110, some [.s, .s]⟩) (.n (some ⟨Tryz.t174.desc, Tryz.t174, none⟩) (.n (some ⟨Tryz.t5.desc, Tryz.t302, none⟩) .e .e) .e) (.n (some ⟨Tryz.t238.desc, Tryz.t238, none⟩) .e .e))) (.n (some ⟨Tryz.t62.desc, Tryz.t62, none⟩) (.n (some ⟨Tryz.t94.desc, Tryz.t94, none⟩) (.n (some ⟨Tryz.t34.desc, Tryz.t158, some [.i, .i]⟩) (.n (some ⟨Tryz.t286.desc, Tryz.t286, none⟩) .e .e) .e) (.n (some ⟨Tryz.t221.desc, Tryz.t222, some [.b, .s, .i]⟩) .e .e)) (.n (some ⟨Tryz.t126.desc, Tryz.t126, none⟩) (.n (some ⟨Tryz.t190.desc, Tryz.t190, none⟩) .e .e) (.n (some ⟨Tryz.t254.desc, Tryz.t254, none⟩) .e .e))))))))
noncomputable def fnT : Tr Func := (.n (some Tryz.f0) (.n (some Tryz.f1) (.n (some Tryz.f3) (.n (some Tryz.f7) (.n (some Tryz.f15) (.n (some Tryz.f31) (.n (some Tryz.f63) (.n (some Tryz.f127) (.n (some Tryz.f255) .e .e) .e) (.n (some Tryz.f191) .e .e)) (.n (some Tryz.f95) (.n (some Tryz.f159) .e .e) (.n (some Tryz.f223) .e .e))) (.n (some Tryz.f47) (.n (some Tryz.f79) (.n (some Tryz.f143) (.n (some Tryz.f271) .e .e) .e) (.n (some Tryz.f207) .e .e)) (.n (some Tryz.f111) (.n (some Tryz.f175) .e .e) (.n (some Tryz.f239) .e .e)))) (.n (some Tryz.f23) (.n (some Tryz.f39) (.n (some Tryz.f71) (.n (some Tryz.f135) (.n (some Tryz.f263) .e .e) .e) (.n (some Tryz.f199) .e .e)) (.n (some Tryz.f103) (.n (some Tryz.f167) .e .e) (.n (some Tryz.f231) .e .e))) (.n (some Tryz.f55) (.n (some Tryz.f87) (.n (some Tryz.f151) .e .e) (.n (some Tryz.f215) .e .e)) (.n (some Tryz.f119) (.n (some Tryz.f183) .e .e) (.n (some Tryz.f247) .e .e))))) (.n (some Tryz.f11) (.n (some Tryz.f19) (.n (some Tryz.f35) (.n (some Tryz.f67) (.n (some Tryz.f131) (.n (some Tryz.f259) .e .e) .e) (.n (some Tryz.f195) .e .e)) (.n (some Tryz.f99) (.n (some Tryz.f163) .e .e) (.n (some Tryz.f227) .e .e))) (.n (some Tryz.f51) (.n (some Tryz.f83) (.n (some Tryz.f147) .e .e) (.n (some Tryz.f211) .e .e)) (.n (some Tryz.f115) (.n (some Tryz.f179) .e .e) (.n (some Tryz.f243) .e .e)))) (.n (some Tryz.f27) (.n (some Tryz.f43) (.n (some Tryz.f75) (.n (some Tryz.f139) (.n (some Tryz.f267) .e .e) .e) (.n (some Tryz.f203) .e .e)) (.n (some Tryz.f107) (.n (some Tryz.f171) .e .e) (.n (some Tryz.f235) .e .e))) (.n (some Tryz.f59) (.n (some Tryz.f91) (.n (some Tryz.f155) .e .e) (.n (some Tryz.f219) .e .e)) (.n (some Tryz.f123) (.n (some Tryz.f187) .e .e) (.n (some Tryz.f251) .e .e)))))) (.n (some Tryz.f5) (.n (some Tryz.f9) (.n (some Tryz.f17) (.n (some Tryz.f33) (.n (some Tryz.f65) (.n (some Tryz.f129) (.n (some Tryz.f257) .e .e) .e) (.n (some Tryz.f193) .e .e)) (.n (some Tryz.f97) (.n (some Tryz.f161) .e .e) (.n (some Tryz.f225) .e .e))) (.n (some Tryz.f49) (.n (some Tryz.f81) (.n (some Tryz.f145) (.n (some Tryz.f273) .e .e) .e) (.n (some Tryz.f209) .e .e)) (.n (some Tryz.f113) (.n (some Tryz.f177) .e .e) (.n (some Tryz.f241) .e .e)))) (.n (some Tryz.f25) (.n (some Tryz.f41) (.n (some Tryz.f73) (.n (some Tryz.f137) (.n (some Tryz.f265) .e .e) .e) (.n (some Tryz.f201) .e .e)) (.n (some Tryz.f105) (.n (some Tryz.f169) .e .e) (.n (some Tryz.f233) .e .e))) (.n (some Tryz.f57) (.n (some Tryz.f89) (.n (some Tryz.f153) .e .e) (.n (some Tryz.f217) .e .e)) (.n (some Tryz.f121) (.n (some Tryz.f185) .e .e) (.n (some Tryz.f249) .e .e))))) (.n (some Tryz.f13) (.n (some Tryz.f21) (.n (some Tryz.f37) (.n (some Tryz.f69) (.n (some Tryz.f133) (.n (some Tryz.f261) .e .e) .e) (.n (some Tryz.f197) .e .e)) (.n (some Tryz.f101) (.n (some Tryz.f165) .e .e) (.n (some Tryz.f229) .e .e))) (.n (some Tryz.f53) (.n (some Tryz.f85) (.n (some Tryz.f149) .e .e) (.n (some Tryz.f213) .e .e)) (.n (some Tryz.f117) (.n (some Tryz.f181) .e .e) (.n (some Tryz.f245) .e .e)))) (.n (some Tryz.f29) (.n (some Tryz.f45) (.n (some Tryz.f77) (.n (some Tryz.f141) (.n (some Tryz.f269) .e .e) .e) (.n (some Tryz.f205) .e .e)) (.n (some Tryz.f109) (.n (some Tryz.f173) .e .e) (.n (some Tryz.f237) .e .e))) (.n (some Tryz.f61) (.n (some Tryz.f93) (.n (some Tryz.f157) .e .e) (.n (some Tryz.f221) .e .e)) (.n (some Tryz.f125) (.n (some Tryz.f189) .e .e) (.n (some Tryz.f253) .e .e))))))) (.n (some Tryz.f2) (.n (some Tryz.f4) (.n (some Tryz.f8) (.n (some Tryz.f16) (.n (some Tryz.f32) (.n (some Tryz.f64) (.n (some Tryz.f128) (.n (some Tryz.f256) .e .e) .e) (.n (some Tryz.f192) .e .e)) (.n (some Tryz.f96) (.n (some Tryz.f160) .e .e) (.n (some Tryz.f224) .e .e))) (.n (some Tryz.f48) (.n (some Tryz.f80) (.n (some Tryz.f144) (.n (some Tryz.f272) .e .e) .e) (.n (some Tryz.f208) .e .e)) (.n (some Tryz.f112) (.n (some Tryz.f176) .e .e) (.n (some Tryz.f240) .e .e)))) (.n (some Tryz.f24) (.n (some Tryz.f40) (.n (some Tryz.f72) (.n (some Tryz.f136) (.n (some Tryz.f264) .e .e) .e) (.n (some Tryz.f200) .e .e)) (.n (some Tryz.f104) (.n (some Tryz.f168) .e .e) (.n (some Tryz.f232) .e .e))) (.n (some Tryz.f56) (.n (some Tryz.f88) (.n (some Tryz.f152) .e .e) (.n (some Tryz.f216) .e .e)) (.n (some Tryz.f120) (.n (some Tryz.f184) .e .e) (.n (some Tryz.f248) .e .e))))) (.n (some Tryz.f12) (.n (some Tryz.f20) (.n (some Tryz.f36) (.n (some Tryz.f68) (.n (some Tryz.f132) (.n (some Tryz.f260) .e .e) .e) (.n (some Tryz.f196) .e .e)) (.n (some Tryz.f100) (.n (some Tryz.f164) .e .e) (.n (some Tryz.f228) .e .e))) (.n (some Tryz.f52) (.n (some Tryz.f84) (.n (some Tryz.f148) .e .e) (.n (some Tryz.f212) .e .e)) (.n (some Tryz.f116) (.n (some Tryz.f180) .e .e) (.n (some Tryz.f244) .e .e)))) (.n (some Tryz.f28) (.n (some Tryz.f44) (.n (some Tryz.f76) (.n (some Tryz.f140) (.n (some Tryz.f268) .e .e) .e) (.n (some Tryz.f204) .e .e)) (.n (some Tryz.f108) (.n (some Tryz.f172) .e .e) (.n (some Tryz.f236) .e .e))) (.n (some Tryz.f60) (.n (some Tryz.f92) (.n (some Tryz.f156) .e .e) (.n (some Tryz.f220) .e .e)) (.n (some Tryz.f124) (.n (some Tryz.f188) .e .e) (.n (some Tryz.f252) .e .e)))))) (.n (some Tryz.f6) (.n (some Tryz.f10) (.n (some Tryz.f18) (.n (some Tryz.f34) (.n (some Tryz.f66) (.n (some Tryz.f130) (.n (some Tryz.f258) .e .e) .e) (.n (some Tryz.f194) .e .e)) (.n (some Tryz.f98) (.n (some Tryz.f162) .e .e) (.n (some Tryz.f226) .e .e))) (.n (some Tryz.f50) (.n (some Tryz.f82) (.n (some Tryz.f146) .e .e) (.n (some Tryz.f210) .e .e)) (.n (some Tryz.f114) (.n (some Tryz.f178) .e .e) (.n (some Tryz.f242) .e .e)))) (.n (some Tryz.f26) (.n (some Tryz.f42) (.n (some Tryz.f74) (.n (some Tryz.f138) (.n (some Tryz.f266) .e .e) .e) (.n (some Tryz.f202) .e .e)) (.n (some Tryz.f106) (.n (some Tryz.f170) .e .e) (.n (some Tryz.f234) .e .e))) (.n (some Tryz.f58) (.n (some Tryz.f90) (.n (some Tryz.f154) .e .e) (.n (some Tryz.f218) .e .e)) (.n (some Tryz.f122) (.n (some Tryz.f186) .e .e) (.n (some Tryz.f250) .e .e))))) (.n (some Tryz.f14) (.n (some Tryz.f22) (.n (some Tryz.f38) (.n (some Tryz.f70) (.n (some Tryz.f134) (.n (some Tryz.f262) .e .e) .e) (.n (some Tryz.f198) .e .e)) (.n (some Tryz.f102) (.n (some Tryz.f166) .e .e) (.n (some Tryz.f230) .e .e))) (.n (some Tryz.f54) (.n (some Tryz.f86) (.n (some Tryz.f150) .e .e) (.n (some Tryz.f214) .e .e)) (.n (some Tryz.f118) (.n (some Tryz.f182) .e .e) (.n (some Tryz.f246) .e .e)))) (.n (some Tryz.f30) (.n (some Tryz.f46) (.n (some Tryz.f78) (.n (some Tryz.f142) (.n (some Tryz.f270) .e .e) .e) (.n (some Tryz.f206) .e .e)) (.n (some Tryz.f110) (.n (some Tryz.f174) .e .e) (.n (some Tryz.f238) .e .e))) (.n (some Tryz.f62) (.n (some Tryz.f94) (.n (some Tryz.f158) .e .e) (.n (some Tryz.f222) .e .e)) (.n (some Tryz.f126) (.n (some Tryz.f190) .e .e) (.n (some Tryz.f254) .e .e))))))))
theorem tyT_ok : All (TyOk Tryz.prog) tyT 0 1 := (all_n ty0 (all_n ty1 (all_n ty3 (all_n ty7 (all_n ty15 (all_n ty31 (all_n ty63 (all_n ty127 (all_n ty255 all_e all_e) all_e) (all_n ty191 all_e all_e)) (all_n ty95 (all_n ty159 (all_n ty287 all_e all_e) all_e) (all_n ty223 all_e all_e))) (all_n ty47 (all_n ty79 (all_n ty143 (all_n ty271 all_e all_e) all_e) (all_n ty207 all_e all_e)) (all_n ty111 (all_n ty175 (all_n ty303 all_e all_e) all_e) (all_n ty239 all_e all_e)))) (all_n ty23 (all_n ty39 (all_n ty71 (all_n ty135 (all_n ty263 all_e all_e) all_e) (all_n ty199 all_e all_e)) (all_n ty103 (all_n ty167 (all_n ty295 all_e all_e) all_e) (all_n ty231 all_e all_e))) (all_n ty55 (all_n ty87 (all_n ty151 (all_n ty279 all_e all_e) all_e) (all_n ty215 all_e all_e)) (all_n ty119 (all_n ty183 all_e all_e) (all_n ty247 all_e all_e))))) (all_n ty11 (all_n ty19 (all_n ty35 (all_n ty67 (all_n ty131 (all_n ty259 all_e all_e) all_e) (all_n ty195 all_e all_e)) (all_n ty99 (all_n ty163 (all_n ty291 all_e all_e) all_e) (all_n ty227 all_e all_e))) (all_n ty51 (all_n ty83 (all_n ty147 (all_n ty275 all_e all_e) all_e) (all_n ty211 all_e all_e)) (all_n ty115 (all_n ty179 (all_n ty307 all_e all_e) all_e) (all_n ty243 all_e all_e)))) (all_n ty27 (all_n ty43 (all_n ty75 (all_n ty139 (all_n ty267 all_e all_e) all_e) (all_n ty203 all_e all_e)) (all_n ty107 (all_n ty171 (all_n ty299 all_e all_e) all_e) (all_n ty235 all_e all_e))) (all_n ty59 (all_n ty91 (all_n ty155 (all_n ty283 all_e all_e) all_e) (all_n ty219 all_e all_e)) (all_n ty123 (all_n ty187 all_e all_e) (all_n ty251 all_e all_e)))))) (all_n ty5 (all_n ty9 (all_n ty17 (all_n ty33 (all_n ty65 (all_n ty129 (all_n ty257 all_e all_e) all_e) (all_n ty193 all_e all_e)) (all_n ty97 (all_n ty161 (all_n ty289 all_e all_e) all_e) (all_n ty225 all_e all_e))) (all_n ty49 (all_n ty81 (all_n ty145 (all_n ty273 all_e all_e) all_e) (all_n ty209 all_e all_e)) (all_n ty113 (all_n ty177 (all_n ty305 all_e all_e) all_e) (all_n ty241 all_e all_e)))) (all_n ty25 (all_n ty41 (all_n ty73 (all_n ty137 (all_n ty265 all_e all_e) all_e) (all_n ty201 all_e all_e)) (all_n ty105 (all_n ty169 (all_n ty297 all_e all_e) all_e) (all_n ty233 all_e all_e))) (all_n ty57 (all_n ty89 (all_n ty153 (all_n ty281 all_e all_e) all_e) (all_n ty217 all_e all_e)) (all_n ty121 (all_n ty185 all_e all_e) (all_n ty249 all_e all_e))))) (all_n ty13 (all_n ty21 (all_n ty37 (all_n ty69 (all_n ty133 (all_n ty261 all_e all_e) all_e) (all_n ty197 all_e all_e)) (all_n ty101 (all_n ty165 (all_n ty293 all_e all_e) all_e) (all_n ty229 all_e all_e))) (all_n ty53 (all_n ty85 (all_n ty149 (all_n ty277 all_e all_e) all_e) (all_n ty213 all_e all_e)) (all_n ty117 (all_n ty181 (all_n ty309 all_e all_e) all_e) (all_n ty245 all_e all_e)))) (all_n ty29 (all_n ty45 (all_n ty77 (all_n ty141 (all_n ty269 all_e all_e) all_e) (all_n ty205 all_e all_e)) (all_n ty109 (all_n ty173 (all_n ty301 all_e all_e) all_e) (all_n ty237 all_e all_e))) (all_n ty61 (all_n ty93 (all_n ty157 (all_n ty285 all_e all_e) all_e) (all_n ty221 all_e all_e)) (all_n ty125 (all_n ty189 all_e all_e) (all_n ty253 all_e all_e))))))) (all_n ty2 (all_n ty4 (all_n ty8 (all_n ty16 (all_n ty32 (all_n ty64 (all_n ty128 (all_n ty256 all_e all_e) all_e) (all_n ty192 all_e all_e)) (all_n ty96 (all_n ty160 (all_n ty288 all_e all_e) all_e) (all_n ty224 all_e all_e))) (all_n ty48 (all_n ty80 (all_n ty144 (all_n ty272 all_e all_e) all_e) (all_n ty208 all_e all_e)) (all_n ty112 (all_n ty176 (all_n ty304 all_e all_e) all_e) (all_n ty240 all_e all_e)))) (all_n ty24 (all_n ty40 (all_n ty72 (all_n ty136 (all_n ty264 all_e all_e) all_e) (all_n ty200 all_e all_e)) (all_n ty104 (all_n ty168 (all_n ty296 all_e all_e) all_e) (all_n ty232 all_e all_e))) (all_n ty56 (all_n ty88 (all_n ty152 (all_n ty280 all_e all_e) all_e) (all_n ty216 all_e all_e)) (all_n ty120 (all_n ty184 all_e all_e) (all_n ty248 all_e all_e))))) (all_n ty12 (all_n ty20 (all_n ty36 (all_n ty68 (all_n ty132 (all_n ty260 all_e all_e) all_e) (all_n ty196 all_e all_e)) (all_n ty100 (all_n ty164 (all_n ty292 all_e all_e) all_e) (all_n ty228 all_e all_e))) (all_n ty52 (all_n ty84 (all_n ty148 (all_n ty276 all_e all_e) all_e) (all_n ty212 all_e all_e)) (all_n ty116 (all_n ty180 (all_n ty308 all_e all_e) all_e) (all_n ty244 all_e all_e)))) (all_n ty28 (all_n ty44 (all_n ty76 (all_n ty140 (all_n ty268 all_e all_e) all_e) (all_n ty204 all_e all_e)) (all_n ty108 (all_n ty172 (all_n ty300 all_e all_e) all_e) (all_n ty236 all_e all_e))) (all_n ty60 (all_n ty92 (all_n ty156 (all_n ty284 all_e all_e) all_e) (all_n ty220 all_e all_e)) (all_n ty124 (all_n ty188 all_e all_e) (all_n ty252 all_e all_e)))))) (all_n ty6 (all_n ty10 (all_n ty18 (all_n ty34 (all_n ty66 (all_n ty130 (all_n ty258 all_e all_e) all_e) (all_n ty194 all_e all_e)) (all_n ty98 (all_n ty162 (all_n ty290 all_e all_e) all_e) (all_n ty226 all_e all_e))) (all_n ty50 (all_n ty82 (all_n ty146 (all_n ty274 all_e all_e) all_e) (all_n ty210 all_e all_e)) (all_n ty114 (all_n ty178 (all_n ty306 all_e all_e) all_e) (all_n ty242 all_e all_e)))) (all_n ty26 (all_n ty42 (all_n ty74 (all_n ty138 (all_n ty266 all_e all_e) all_e) (all_n ty202 all_e all_e)) (all_n ty106 (all_n ty170 (all_n ty298 all_e all_e) all_e) (all_n ty234 all_e all_e))) (all_n ty58 (all_n ty90 (all_n ty154 (all_n ty282 all_e all_e) all_e) (all_n ty218 all_e all_e)) (all_n ty122 (all_n ty186 all_e all_e) (all_n ty250 all_e all_e))))) (all_n ty14 (all_n ty22 (all_n ty38 (all_n ty70 (all_n ty134 (all_n ty262 all_e all_e) all_e) (all_n ty198 all_e all_e)) (all_n ty102 (all_n ty166 (all_n ty294 all_e all_e) all_e) (all_n ty230 all_e all_e))) (all_n ty54 (all_n ty86 (all_n ty150 (all_n ty278 all_e all_e) all_e) (all_n ty214 all_e all_e)) (all_n ty118 (all_n ty182 (all_n ty310 all_e all_e) all_e) (all_n ty246 all_e all_e)))) (all_n ty30 (all_n ty46 (all_n ty78 (all_n ty142 (all_n ty270 all_e all_e) all_e) (all_n ty206 all_e all_e)) (all_n ty110 (all_n ty174 (all_n ty302 all_e all_e) all_e) (all_n ty238 all_e all_e))) (all_n ty62 (all_n ty94 (all_n ty158 (all_n ty286 all_e all_e) all_e) (all_n ty222 all_e all_e)) (all_n ty126 (all_n ty190 all_e all_e) (all_n ty254 all_e all_e))))))))
theorem fnT_ok : All (FnOk Tryz.prog) fnT 0 1 := (all_n fn0 (all_n fn1 (all_n fn3 (all_n fn7 (all_n fn15 (all_n fn31 (all_n fn63 (all_n fn127 (all_n fn255 all_e all_e) all_e) (all_n fn191 all_e all_e)) (all_n fn95 (all_n fn159 all_e all_e) (all_n fn223 all_e all_e))) (all_n fn47 (all_n fn79 (all_n fn143 (all_n fn271 all_e all_e) all_e) (all_n fn207 all_e all_e)) (all_n fn111 (all_n fn175 all_e all_e) (all_n fn239 all_e all_e)))) (all_n fn23 (all_n fn39 (all_n fn71 (all_n fn135 (all_n fn263 all_e all_e) all_e) (all_n fn199 all_e all_e)) (all_n fn103 (all_n fn167 all_e all_e) (all_n fn231 all_e all_e))) (all_n fn55 (all_n fn87 (all_n fn151 all_e all_e) (all_n fn215 all_e all_e)) (all_n fn119 (all_n fn183 all_e all_e) (all_n fn247 all_e all_e))))) (all_n fn11 (all_n fn19 (all_n fn35 (all_n fn67 (all_n fn131 (all_n fn259 all_e all_e) all_e) (all_n fn195 all_e all_e)) (all_n fn99 (all_n fn163 all_e all_e) (all_n fn227 all_e all_e))) (all_n fn51 (all_n fn83 (all_n fn147 all_e all_e) (all_n fn211 all_e all_e)) (all_n fn115 (all_n fn179 all_e all_e) (all_n fn243 all_e all_e)))) (all_n fn27 (all_n fn43 (all_n fn75 (all_n fn139 (all_n fn267 all_e all_e) all_e) (all_n fn203 all_e all_e)) (all_n fn107 (all_n fn171 all_e all_e) (all_n fn235 all_e all_e))) (all_n fn59 (all_n fn91 (all_n fn155 all_e all_e) (all_n fn219 all_e all_e)) (all_n fn123 (all_n fn187 all_e all_e) (all_n fn251 all_e all_e)))))) (all_n fn5 (all_n fn9 (all_n fn17 (all_n fn33 (all_n fn65 (all_n fn129 (all_n fn257 all_e all_e) all_e) (all_n fn193 all_e all_e)) (all_n fn97 (all_n fn161 all_e all_e) (all_n fn225 all_e all_e))) (all_n fn49 (all_n fn81 (all_n fn145 (all_n fn273 all_e all_e) all_e) (all_n fn209 all_e all_e)) (all_n fn113 (all_n fn177 all_e all_e) (all_n fn241 all_e all_e)))) (all_n fn25 (all_n fn41 (all_n fn73 (all_n fn137 (all_n fn265 all_e all_e) all_e) (all_n fn201 all_e all_e)) (all_n fn105 (all_n fn169 all_e all_e) (all_n fn233 all_e all_e))) (all_n fn57 (all_n fn89 (all_n fn153 all_e all_e) (all_n fn217 all_e all_e)) (all_n fn121 (all_n fn185 all_e all_e) (all_n fn249 all_e all_e))))) (all_n fn13 (all_n fn21 (all_n fn37 (all_n fn69 (all_n fn133 (all_n fn261 all_e all_e) all_e) (all_n fn197 all_e all_e)) (all_n fn101 (all_n fn165 all_e all_e) (all_n fn229 all_e all_e))) (all_n fn53 (all_n fn85 (all_n fn149 all_e all_e) (all_n fn213 all_e all_e)) (all_n fn117 (all_n fn181 all_e all_e) (all_n fn245 all_e all_e)))) (all_n fn29 (all_n fn45 (all_n fn77 (all_n fn141 (all_n fn269 all_e all_e) all_e) (all_n fn205 all_e all_e)) (all_n fn109 (all_n fn173 all_e all_e) (all_n fn237 all_e all_e))) (all_n fn61 (all_n fn93 (all_n fn157 all_e all_e) (all_n fn221 all_e all_e)) (all_n fn125 (all_n fn189 all_e all_e) (all_n fn253 all_e all_e))))))) (all_n fn2 (all_n fn4 (all_n fn8 (all_n fn16 (all_n fn32 (all_n fn64 (all_n fn128 (all_n fn256 all_e all_e) all_e) (all_n fn192 all_e all_e)) (all_n fn96 (all_n fn160 all_e all_e) (all_n fn224 all_e all_e))) (all_n fn48 (all_n fn80 (all_n fn144 (all_n fn272 all_e all_e) all_e) (all_n fn208 all_e all_e)) (all_n fn112 (all_n fn176 all_e all_e) (all_n fn240 all_e all_e)))) (all_n fn24 (all_n fn40 (all_n fn72 (all_n fn136 (all_n fn264 all_e all_e) all_e) (all_n fn200 all_e all_e)) (all_n fn104 (all_n fn168 all_e all_e) (all_n fn232 all_e all_e))) (all_n fn56 (all_n fn88 (all_n fn152 all_e all_e) (all_n fn216 all_e all_e)) (all_n fn120 (all_n fn184 all_e all_e) (all_n fn248 all_e all_e))))) (all_n fn12 (all_n fn20 (all_n fn36 (all_n fn68 (all_n fn132 (all_n fn260 all_e all_e) all_e) (all_n fn196 all_e all_e)) (all_n fn100 (all_n fn164 all_e all_e) (all_n fn228 all_e all_e))) (all_n fn52 (all_n fn84 (all_n fn148 all_e all_e) (all_n fn212 all_e all_e)) (all_n fn116 (all_n fn180 all_e all_e) (all_n fn244 all_e all_e)))) (all_n fn28 (all_n fn44 (all_n fn76 (all_n fn140 (all_n fn268 all_e all_e) all_e) (all_n fn204 all_e all_e)) (all_n fn108 (all_n fn172 all_e all_e) (all_n fn236 all_e all_e))) (all_n fn60 (all_n fn92 (all_n fn156 all_e all_e) (all_n fn220 all_e all_e)) (all_n fn124 (all_n fn188 all_e all_e) (all_n fn252 all_e all_e)))))) (all_n fn6 (all_n fn10 (all_n fn18 (all_n fn34 (all_n fn66 (all_n fn130 (all_n fn258 all_e all_e) all_e) (all_n fn194 all_e all_e)) (all_n fn98 (all_n fn162 all_e all_e) (all_n fn226 all_e all_e))) (all_n fn50 (all_n fn82 (all_n fn146 all_e all_e) (all_n fn210 all_e all_e)) (all_n fn114 (all_n fn178 all_e all_e) (all_n fn242 all_e all_e)))) (all_n fn26 (all_n fn42 (all_n fn74 (all_n fn138 (all_n fn266 all_e all_e) all_e) (all_n fn202 all_e all_e)) (all_n fn106 (all_n fn170 all_e all_e) (all_n fn234 all_e all_e))) (all_n fn58 (all_n fn90 (all_n fn154 all_e all_e) (all_n fn218 all_e all_e)) (all_n fn122 (all_n fn186 all_e all_e) (all_n fn250 all_e all_e))))) (all_n fn14 (all_n fn22 (all_n fn38 (all_n fn70 (all_n fn134 (all_n fn262 all_e all_e) all_e) (all_n fn198 all_e all_e)) (all_n fn102 (all_n fn166 all_e all_e) (all_n fn230 all_e all_e))) (all_n fn54 (all_n fn86 (all_n fn150 all_e all_e) (all_n fn214 all_e all_e)) (all_n fn118 (all_n fn182 all_e all_e) (all_n fn246 all_e all_e)))) (all_n fn30 (all_n fn46 (all_n fn78 (all_n fn142 (all_n fn270 all_e all_e) all_e) (all_n fn206 all_e all_e)) (all_n fn110 (all_n fn174 all_e all_e) (all_n fn238 all_e all_e))) (all_n fn62 (all_n fn94 (all_n fn158 all_e all_e) (all_n fn222 all_e all_e)) (all_n fn126 (all_n fn190 all_e all_e) (all_n fn254 all_e all_e))))))))
noncomputable def env : Env := mkE tyT fnT (fun f => if f = 216 then some indexByteY else if f = 203 then some countY else if f = 115 then some sameY else none) 12 (fun t m => if t = 48 ∧ m = "Value" then some 252 else none) (fun f => if f = 172 then some 5 else none)
theorem env_ok : env.Ok Tryz.prog := mkE_ok tyT_ok fnT_ok (fun f p h => by
  split at h
  · rename_i e; subst e; obtain rfl := Option.some.inj h; exact ext216
  split at h
  · rename_i e; subst e; obtain rfl := Option.some.inj h; exact ext203
  split at h
  · rename_i e; subst e; obtain rfl := Option.some.inj h; exact ext115
  simp at h) (by kernel_rfl) (fun t m f h => by
  try dsimp only at h
  split at h
  · rename_i e; obtain ⟨rfl, rfl⟩ := e; obtain rfl := Option.some.inj h; exact mth48x252
  simp at h) (fun f e h => by
  try dsimp only at h
  split at h
  · rename_i q; subst q; obtain rfl := Option.some.inj h; exact nz172
  simp at h)
end Go.Proofs.YtdkekhaamhphcaaGreatDoor
