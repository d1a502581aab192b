/-
  ref06.dress at names' bytes: the text itself. Condition: the text is of names' bytes and short.
  ref06.Text at a step that may be. Condition: the step's keys read as these; they may be.
  ref06.May at a step that may be. Condition: the step's keys read as these; they may be.
  ref06.Print at steps that may be. Condition: the slice reads as these steps; they may be; the path is short.
-/
import Derived.Test.YtjmebclcmpfdmaaGreatDoorGc
import Derived.Lib.QuietBelow
import Derived.Test.YtjmebclcmpfdmaaGreatDoorGa
set_option linter.unusedVariables false
set_option linter.unusedSimpArgs false
namespace Go.Proofs.YtjmebclcmpfdmaaGreatDoor
open Go.RowKit
open Ph
theorem preV_str {v : ByteArray} {j : Nat} (h : j < v.size) : preV v j ++ v.extract j (j + 1) = preV v (j + 1) := by
  have hl := size_list v
  apply ba_ext
  rw [preV_succ h]
  simp only [ByteArray.data_append, Array.toList_append, ByteArray.data_extract, Array.toList_extract]
  rw [List.extract_eq_take_drop]
  have : v.data.toList.drop j = v.data.toList[j]'(by omega) :: v.data.toList.drop (j + 1) := List.drop_eq_getElem_cons (by omega)
  rw [this]
  simp
  exact (get_list v j h (by omega)).symm
set_option maxRecDepth 100000 in
set_option maxHeartbeats 4000000 in
theorem dress_ok (v : ByteArray) (hv : v.size ≤ 1000) (hb : ∀ b ∈ v.data.toList, byteB b = true) (w : World) :
    Calls Tryz.prog 179 #[.string v] w fun e w' => e = .returned (.string v) ∧ w' = w := by
  go_enter Tryz.func179, Tryz.ntmps179
  go_wp2_with fail
  go_loopw [4, 3] (fun u x wr => ∃ j : Nat, u = .int .i64 j ∧ x = .string (preV v j) ∧ j ≤ v.size ∧ wr = w) (fun u _ _ => v.size - (intOf u).toNat)
  case atStart => exact ⟨0, rfl, rfl, by omega, by trivial⟩
  case round =>
    obtain ⟨j, rfl, rfl, hj, rfl⟩ := hrel
    have hpz := preV_size (v := v) (j := j) hj
    by_cases h : j < v.size
    · have HX := idxB_no v[j] (mem_byte hb j h)
      have HP := Lib.hid (preV_str h)
      go_wp2_with (go_at_call 217; refine (HX _).mono ?_; rintro e w3 ⟨rfl, rfl⟩)
      go_roundw
      case rel => exact ⟨j + 1, by go_num, by rw [← HP.out], by omega, by trivial⟩
      case measure => simp [intOf]; omega
    · obtain rfl : j = v.size := by omega
      rw [preV_all]
      go_wp2_with fail
      refine bodyPost_ret (v := .string v) ?_ rfl ⟨rfl, by trivial⟩
      simp [results, Tryz.results179, go_sem]
end Go.Proofs.YtjmebclcmpfdmaaGreatDoor
namespace Go.Proofs.YtjmebclcmpfdmaaGreatDoor
open Go.RowKit
open Ph
theorem keyT_ref (a : ByteArray) (k : ByteArray × ByteArray) : a ++ ((((⟨#[91]⟩ ++ k.1) ++ ⟨#[61]⟩) ++ k.2) ++ ⟨#[93]⟩) = a ++ keyT k := rfl
theorem dress_b (v : ByteArray) (hv : v.size ≤ 1000) (hb : ∀ b ∈ v.data.toList, byteB b = true) (w : World) :
    Calls Tryz.prog 179 #[.string v] w fun e w' => e = .returned (.string v) ∧ Below w.heap.size w w' :=
  (dress_ok v hv hb w).mono fun _ _ ⟨h1, h2⟩ => ⟨h1, by rw [h2]; exact Below.refl _ _⟩
set_option maxRecDepth 100000 in
set_option maxHeartbeats 4000000 in
theorem refText_ok (s : Stp) (hok : stepB s = true) (hkl : s.keys.length ≤ 100) (Ak : Option Addr) (ck B : Nat) (w : World) (hP : Pairs w B Ak s.keys) (hB : B ≤ w.heap.size) :
    Calls Tryz.prog 146 #[stepV s.name Ak s.keys.length ck] w fun e w' => e = .returned (.string (stepT s)) ∧ Below w.heap.size w w' := by
  have hkey := stepB_key hok
  have hn2 : s.name.size ≤ 64 := by
    simp only [stepB, Bool.and_eq_true, decide_eq_true_eq] at hok
    exact hok.2.1
  clear hok
  have hT : stepT s = accK s.name s.keys s.keys.length := by unfold stepT accK; rw [List.take_length]
  rw [hT]
  clear hT
  obtain ⟨nm, hnm⟩ : ∃ nm, s.name = nm := ⟨_, rfl⟩
  obtain ⟨ks, hks⟩ : ∃ ks, s.keys = ks := ⟨_, rfl⟩
  unfold stepV
  rw [hnm] at hn2 ⊢
  rw [hks] at hkey hP hkl ⊢
  clear hnm hks
  have hsz := accK_size hn2 (fun i h => ⟨(hkey i h).2.1, (hkey i h).2.2.2.1⟩)
  go_enter Tryz.func146, Tryz.ntmps146
  go_wp2_with fail
  go_loopw [11, 3] (fun u x wr => ∃ i : Nat, u = .int .i64 i ∧ x = .string (accK nm ks i) ∧ i ≤ ks.length ∧ Pairs wr B Ak ks ∧ Below w.heap.size w wr) (fun u _ _ => ks.length - (intOf u).toNat)
  case atStart => exact ⟨0, rfl, rfl, by omega, hP.alloc hB _, (Below.refl _ _).alloc (Nat.le_refl _) _⟩
  case round =>
    clear hP
    obtain ⟨i, rfl, rfl, hi, hP, hb⟩ := hrel
    have hs := hsz i hi
    by_cases h : i < ks.length
    · obtain ⟨ad, rfl, b0, c0, c1⟩ := hP.at_ h
      obtain ⟨k1, k2, k3, k4, k5⟩ := hkey i h
      have hac := accK_succ (nm := nm) h
      obtain ⟨acc, hacc⟩ : ∃ acc, accK nm ks i = acc := ⟨_, rfl⟩
      obtain ⟨k, hk⟩ : ∃ k, ks[i] = k := ⟨_, rfl⟩
      rw [hk] at c0 c1 k1 k2 k3 k4 k5 hac
      rw [hacc] at hs hac ⊢
      have HAc := Lib.hid hac
      have HX := dress_b k.2 (by omega) k3
      have z1 : ((⟨#[91]⟩ : ByteArray) ++ k.1).size ≤ 100 := by rw [ByteArray.size_append]; show 1 + k.1.size ≤ 100; omega
      have z2 : (((⟨#[91]⟩ : ByteArray) ++ k.1) ++ ⟨#[61]⟩).size ≤ 101 := by rw [ByteArray.size_append]; show _ + 1 ≤ 101; omega
      have z3 : ((((⟨#[91]⟩ : ByteArray) ++ k.1) ++ ⟨#[61]⟩) ++ k.2).size ≤ 200 := by rw [ByteArray.size_append]; omega
      have z4 : (((((⟨#[91]⟩ : ByteArray) ++ k.1) ++ ⟨#[61]⟩) ++ k.2) ++ ⟨#[93]⟩).size ≤ 201 := by rw [ByteArray.size_append]; show _ + 1 ≤ 201; omega
      have KB := Blk.new wr 175 #[.string k.1, .string k.2]
      have hbb := hb.alloc hb.size (.cells #[.string k.1, .string k.2] 175)
      have hP1 := hP.alloc (Nat.le_trans hB hb.size) (.cells #[.string k.1, .string k.2] 175)
      obtain ⟨w1, hw1⟩ : ∃ w1, wr.alloc (.cells #[.string k.1, .string k.2] 175) = w1 := ⟨_, rfl⟩
      have e0 := fun d os => cell_regrown (w := w1) (by rw [← hw1]; exact KB.at_ 0 (v := .string k.1) rfl) d os
      have e1 := fun d os => cell_regrown (w := w1) (by rw [← hw1]; exact KB.at_ 1 (v := .string k.2) rfl) d os
      rw [hw1] at KB hbb hP1
      clear hk hac hacc k5 k3
      go_wp2_with fail
      try rw [hw1]
      refine wp_region_quiet_below (by kernel_rfl) (by kernel_rfl) ?_
      repeat (go_big_quiet_step ((go_at_call 179; exact Calls.regrown_of (HX _))))
      refine wpQuiet_nil ?_
      intro _ hw'
      obtain ⟨⟨dq, osq⟩, hw''⟩ := hw'
      subst hw''
      have hP2 := hP1.below ((below_regrown w1 dq osq).mono (Nat.le_trans hB hbb.size))
      have hb2 := hbb.trans ((below_regrown w1 dq osq).mono hbb.size)
      clear e0 e1 HX hP1 hbb KB
      generalize Sort.grow (redrawn w1 dq) osq = w8 at *
      go_wp2_with fail
      go_roundw
      case rel => exact ⟨i + 1, by go_num, by rw [HAc.out]; rfl, by omega, hP2, hb2⟩
      case measure => simp [intOf]; omega
    · obtain rfl : i = ks.length := by omega
      go_wp2_with fail
      refine bodyPost_ret (v := .string (accK nm ks ks.length)) ?_ rfl ⟨rfl, hb⟩
      simp [results, Tryz.results146, go_sem]
end Go.Proofs.YtjmebclcmpfdmaaGreatDoor
namespace Go.Proofs.YtjmebclcmpfdmaaGreatDoor
open Go.RowKit
open Ph
theorem refName_b (s : ByteArray) (hs : s.size ≤ 1000) (w : World) : Calls Tryz.prog 40 #[.string s] w fun e w' => e = .returned (.bool (nameB s)) ∧ Below w.heap.size w w' :=
  (refName_any s (by omega) w).mono fun _ _ ⟨h1, h2⟩ => ⟨h1, by rw [h2]; exact Below.refl _ _⟩
theorem right_b (s : ByteArray) (hs : s.size ≤ 1000) (hb : ∀ b ∈ s.data.toList, byteB b = true) (w : World) :
    Calls Tryz.prog 64 #[.string s] w fun e w' => e = .returned (.bool true) ∧ Below w.heap.size w w' :=
  (right_any s (by omega) true (by rw [brk_ascii (fun j hj => by have := byte_ascii (mem_byte hb j hj); omega) _ 0 (Nat.le_refl _)]; rfl) w).mono fun _ _ ⟨h1, h2⟩ => ⟨h1, by rw [h2]; exact Below.refl _ _⟩
set_option maxRecDepth 100000 in
set_option maxHeartbeats 4000000 in
theorem refMay_ok (s : Stp) (hok : stepB s = true) (hkl : s.keys.length ≤ 100) (Ak : Option Addr) (ck B : Nat) (w : World) (hP : Pairs w B Ak s.keys) (hB : B ≤ w.heap.size) :
    Calls Tryz.prog 145 #[stepV s.name Ak s.keys.length ck] w fun e w' => e = .returned (.tuple #[.bool true, .bool false]) ∧ Below w.heap.size w w' := by
  have hkey := stepB_key hok
  have hnm : nameB s.name = true ∧ s.name.size ≤ 64 := by
    simp only [stepB, Bool.and_eq_true, decide_eq_true_eq] at hok
    exact ⟨hok.1, hok.2.1⟩
  obtain ⟨hn1, hn2⟩ := hnm
  have HNm := refName_any s.name (by omega)
  rw [hn1] at HNm
  have c64 : ¬ (64 < (s.name.size : Int)) := by omega
  clear hok hn1
  obtain ⟨nm, hnm⟩ : ∃ nm, s.name = nm := ⟨_, rfl⟩
  obtain ⟨ks, hks⟩ : ∃ ks, s.keys = ks := ⟨_, rfl⟩
  unfold stepV
  rw [hnm] at HNm c64 hn2 ⊢
  rw [hks] at hkey hP hkl ⊢
  clear hnm hks
  go_enter Tryz.func145, Tryz.ntmps145
  go_wp2_with (go_at_call 40; refine (HNm _).mono ?_; rintro e w1 ⟨rfl, rfl⟩)
  go_loopw [21, 4] (fun u v wr => ∃ i : Nat, u = .int .i64 i ∧ v = .bool false ∧ i ≤ ks.length ∧ Blk wr w.heap.size 92 #[.string nm, .slice Ak ks.length ck] ∧ Pairs wr B Ak ks ∧ Below w.heap.size w wr) (fun u _ _ => ks.length - (intOf u).toNat)
  case atStart => exact ⟨0, rfl, rfl, by omega, Blk.new _ _ _, hP.alloc hB _, (Below.refl _ _).alloc (Nat.le_refl _) _⟩
  case round =>
    clear hP HNm
    obtain ⟨i, rfl, rfl, hi, hBl, hP, hb⟩ := hrel
    by_cases h : i < ks.length
    · obtain ⟨ad, rfl, b0, c0, c1⟩ := hP.at_ h
      obtain ⟨k1, k2, k3, k4, k5⟩ := hkey i h
      have hprev : ∀ j, i = j + 1 → wr.cell? (ad.add (j * 2)) = some (.string (aheadAt ks i)) := fun j hj => by
        subst hj
        obtain ⟨ad', e, _, c', _⟩ := hP.at_ (show j < ks.length by omega)
        cases e
        rw [ahead_succ (show j < ks.length by omega)]
        exact c'
      obtain ⟨ah, hah⟩ : ∃ ah, aheadAt ks i = ah := ⟨_, rfl⟩
      obtain ⟨k, hk⟩ : ∃ k, ks[i] = k := ⟨_, rfl⟩
      rw [hk] at c0 c1 k1 k2 k3 k4 k5
      rw [hah] at k5 hprev
      clear hk hah
      have HN := refName_b k.1 (by omega)
      rw [k1] at HN
      have HR := right_b k.2 (by omega) k3
      unfold leS at k5
      have c5 : ¬ (64 < (k.1.size : Int)) := by omega
      have c6 : ¬ (64 < (k.2.size : Int)) := by omega
      have hbb := hb.alloc hb.size (.cells #[.string k.1, .string k.2] 175)
      have hB1 := hBl.alloc (.cells #[.string k.1, .string k.2] 175)
      have hP1 := hP.alloc (Nat.le_trans hB hb.size) (.cells #[.string k.1, .string k.2] 175)
      have KB := Blk.new wr 175 #[.string k.1, .string k.2]
      have hprev1 : ∀ j, i = j + 1 → (wr.alloc (.cells #[.string k.1, .string k.2] 175)).cell? (ad.add (j * 2)) = some (.string ah) := fun j hj => ((Below.refl wr.heap.size wr).alloc (Nat.le_refl _) _).cell (block_lt_of_cell (hprev j hj)) ▸ hprev j hj
      obtain ⟨w1, hw1⟩ : ∃ w1, wr.alloc (.cells #[.string k.1, .string k.2] 175) = w1 := ⟨_, rfl⟩
      rw [hw1] at KB hbb hP1 hB1 hprev1
      have e0 := fun d os => cell_regrown (KB.at_ 0 (v := .string k.1) rfl) d os
      have e1 := fun d os => cell_regrown (KB.at_ 1 (v := .string k.2) rfl) d os
      have s1 := fun d os => cell_regrown (hB1.at_ 1 (v := .slice (some ad) ks.length ck) rfl) d os
      clear k1 hprev
      go_wp2_with fail
      try rw [hw1]
      clear c0 c1
      rcases (show i = 0 ∨ ∃ j, i = j + 1 by cases i; exact Or.inl rfl; exact Or.inr ⟨_, rfl⟩) with rfl | ⟨j, rfl⟩
      · clear hprev1
        refine wp_region_quiet_below (by kernel_rfl) (by kernel_rfl) ?_
        repeat (go_big_quiet_step (first | (go_at_call 40; exact Calls.regrown_of (HN _)) | (go_at_call 64; exact Calls.regrown_of (HR _))))
        refine wpQuiet_nil ?_
        intro _ hw'
        obtain ⟨⟨dq, osq⟩, hw''⟩ := hw'
        subst hw''
        have hP2 := hP1.below ((below_regrown w1 dq osq).mono (Nat.le_trans hB hbb.size))
        have hb2 := hbb.trans ((below_regrown w1 dq osq).mono hbb.size)
        have hB2 := hB1.below (below_regrown w1 dq osq) hB1.lt
        have KB2 := KB.below (below_regrown w1 dq osq) KB.lt
        clear e0 e1 s1 HN HR hP1 hbb KB hB1 
        generalize Sort.grow (redrawn w1 dq) osq = w8 at *
        clear hb hw1 hBl hP
        obtain ⟨g5, hg5⟩ : ∃ g5, wr.heap.size = g5 := ⟨_, rfl⟩
        rw [hg5] at KB2 ⊢
        have q1 := KB2.at_ 1 (v := .string k.2) rfl
        clear hg5
        go_wp2_with fail
        go_loopw [] (fun wx => ∃ pos : Nat, wx.heap[w8.heap.size]? = some (.stringIter k.2 pos) ∧ Below w8.heap.size w8 wx ∧ pos ≤ k.2.size) (fun wx => k.2.size - wx.iterPos w8.heap.size)
        case atStart => exact ⟨0, World.iter_heap w8 k.2 0, (Below.refl _ w8).alloc (Nat.le_refl _) _, by omega⟩
        case round =>
          obtain ⟨pos, hit, hbw, hp1⟩ := hrel
          have hsz : w8.heap.size < wr.heap.size := (Array.getElem?_eq_some_iff.1 hit).1
          by_cases hp : pos < k.2.size
          · have hby := byte_ascii (mem_byte k3 pos hp)
            have hnx : ∀ ty, (Instr.next (.pointer (some ⟨w8.heap.size, 0, none⟩)) true ty).run Tryz.prog wr = _ := fun ty => Lib.run_next_ascii_at wr w8.heap.size k.2 pos ty hit hp (by omega)
            have hit2 := Lib.iterAt_heap wr w8.heap.size k.2 pos (pos + 1) hit
            have hbw2 := Lib.below_iterAt hbw (k := w8.heap.size) (by omega) k.2 (pos + 1)
            obtain ⟨r, hr⟩ : ∃ r : Nat, k.2[pos].toNat = r := ⟨_, rfl⟩
            rw [hr] at hnx hby
            have HC := refControl_ok r hby.1 hby.2.1
            clear hr hby
            go_wp2_with (go_at_call 178; refine (HC _).mono ?_; rintro e w1 ⟨rfl, rfl⟩)
            go_roundw
            case rel => exact ⟨_, _, _, _, _, _, _, _, _, ⟨pos + 1, hit2, hbw2, by omega⟩, rfl⟩
            case measure =>
              simp only [World.iterPos, hit2, hit]
              omega
          · have hnx : ∀ ty, (Instr.next (.pointer (some ⟨w8.heap.size, 0, none⟩)) true ty).run Tryz.prog wr = _ := fun ty => Lib.run_next_end_at wr w8.heap.size k.2 pos ty hit hp
            have KB3 := KB2.below hbw KB2.lt
            have f0 := KB3.at_ 0 (v := .string k.1) rfl
            have f1 := KB3.at_ 1 (v := .string k.2) rfl
            go_wp2_with fail
            go_roundw
            case rel => exact ⟨0 + 1, by go_num, by rw [decide_eq_false (show ¬ 64 < (k.1.size : Int) by omega), decide_eq_false (show ¬ 64 < (k.2.size : Int) by omega)]; rfl, by omega, hB2.below hbw hB2.lt, hP2.below (hbw.mono (Nat.le_trans hB hb2.size)), hb2.trans (hbw.mono hb2.size)⟩
            case measure => simp [intOf]; omega
      · have hpj := fun d os => cell_regrown (hprev1 j rfl) d os
        clear hprev1
        refine wp_region_quiet_below (by kernel_rfl) (by kernel_rfl) ?_
        repeat (go_big_quiet_step (first | (go_at_call 40; exact Calls.regrown_of (HN _)) | (go_at_call 64; exact Calls.regrown_of (HR _))))
        refine wpQuiet_nil ?_
        intro _ hw'
        obtain ⟨⟨dq, osq⟩, hw''⟩ := hw'
        subst hw''
        have hP2 := hP1.below ((below_regrown w1 dq osq).mono (Nat.le_trans hB hbb.size))
        have hb2 := hbb.trans ((below_regrown w1 dq osq).mono hbb.size)
        have hB2 := hB1.below (below_regrown w1 dq osq) hB1.lt
        have KB2 := KB.below (below_regrown w1 dq osq) KB.lt
        clear e0 e1 s1 HN HR hP1 hbb KB hB1 hpj
        generalize Sort.grow (redrawn w1 dq) osq = w8 at *
        clear hb hw1 hBl hP
        obtain ⟨g5, hg5⟩ : ∃ g5, wr.heap.size = g5 := ⟨_, rfl⟩
        rw [hg5] at KB2 ⊢
        have q1 := KB2.at_ 1 (v := .string k.2) rfl
        clear hg5
        go_wp2_with fail
        go_loopw [] (fun wx => ∃ pos : Nat, wx.heap[w8.heap.size]? = some (.stringIter k.2 pos) ∧ Below w8.heap.size w8 wx ∧ pos ≤ k.2.size) (fun wx => k.2.size - wx.iterPos w8.heap.size)
        case atStart => exact ⟨0, World.iter_heap w8 k.2 0, (Below.refl _ w8).alloc (Nat.le_refl _) _, by omega⟩
        case round =>
          obtain ⟨pos, hit, hbw, hp1⟩ := hrel
          have hsz : w8.heap.size < wr.heap.size := (Array.getElem?_eq_some_iff.1 hit).1
          by_cases hp : pos < k.2.size
          · have hby := byte_ascii (mem_byte k3 pos hp)
            have hnx : ∀ ty, (Instr.next (.pointer (some ⟨w8.heap.size, 0, none⟩)) true ty).run Tryz.prog wr = _ := fun ty => Lib.run_next_ascii_at wr w8.heap.size k.2 pos ty hit hp (by omega)
            have hit2 := Lib.iterAt_heap wr w8.heap.size k.2 pos (pos + 1) hit
            have hbw2 := Lib.below_iterAt hbw (k := w8.heap.size) (by omega) k.2 (pos + 1)
            obtain ⟨r, hr⟩ : ∃ r : Nat, k.2[pos].toNat = r := ⟨_, rfl⟩
            rw [hr] at hnx hby
            have HC := refControl_ok r hby.1 hby.2.1
            clear hr hby
            go_wp2_with (go_at_call 178; refine (HC _).mono ?_; rintro e w1 ⟨rfl, rfl⟩)
            go_roundw
            case rel => exact ⟨_, _, _, _, _, _, _, _, _, ⟨pos + 1, hit2, hbw2, by omega⟩, rfl⟩
            case measure =>
              simp only [World.iterPos, hit2, hit]
              omega
          · have hnx : ∀ ty, (Instr.next (.pointer (some ⟨w8.heap.size, 0, none⟩)) true ty).run Tryz.prog wr = _ := fun ty => Lib.run_next_end_at wr w8.heap.size k.2 pos ty hit hp
            have KB3 := KB2.below hbw KB2.lt
            have f0 := KB3.at_ 0 (v := .string k.1) rfl
            have f1 := KB3.at_ 1 (v := .string k.2) rfl
            go_wp2_with fail
            go_roundw
            case rel => exact ⟨j + 1 + 1, by go_num, by rw [decide_eq_false (show ¬ 64 < (k.1.size : Int) by omega), decide_eq_false (show ¬ 64 < (k.2.size : Int) by omega)]; rfl, by omega, hB2.below hbw hB2.lt, hP2.below (hbw.mono (Nat.le_trans hB hb2.size)), hb2.trans (hbw.mono hb2.size)⟩
            case measure => simp [intOf]; omega
    · go_wp2_with fail
      refine bodyPost_ret (v := .tuple #[.bool true, .bool false]) ?_ rfl ⟨rfl, hb⟩
      simp [results, Tryz.results145, go_sem]
end Go.Proofs.YtjmebclcmpfdmaaGreatDoor
namespace Go.Proofs.YtjmebclcmpfdmaaGreatDoor
open Go.RowKit
open Ph
theorem leftT_zero : leftT [] = ⟨#[]⟩ := rfl
theorem nil_ba (a : ByteArray) : (⟨#[]⟩ : ByteArray) ++ a = a := by
  apply ByteArray.ext
  simp [ByteArray.data_append]
theorem leftT_one {l : List Stp} (h : 0 < l.length) : leftT (l.take (0 + 1)) = stepT l[0] := by
  cases l with
  | nil => simp at h
  | cons s t => simp [leftT]
theorem leftT_succ {l : List Stp} {i : Nat} (h : i + 1 < l.length) : leftT (l.take (i + 1 + 1)) = (leftT (l.take (i + 1)) ++ ⟨#[47]⟩) ++ stepT l[i + 1] := by
  rw [List.take_succ_eq_append_getElem h]
  cases l with
  | nil => simp at h
  | cons s t =>
    rw [List.take_succ_cons]
    simp only [leftT, List.cons_append, List.foldl_append, List.foldl_cons, List.foldl_nil, List.getElem_cons_succ]
theorem leftT_le {l : List Stp} {i : Nat} (h : i ≤ l.length) : (leftT (l.take i)).size ≤ sizeT l := by
  rcases Nat.eq_zero_or_pos i with rfl | h0
  · show 0 ≤ _; omega
  · have := left_size (l.take i) (by rw [List.length_take]; omega)
    have := sizeT_le (l := l) i h
    omega
set_option maxRecDepth 100000 in
set_option maxHeartbeats 4000000 in
theorem refPrint_ok (A : Option Addr) (c B : Nat) (l : List Stp) (hok : PathOk l) (w : World) (hS : Steps w B A l) (hB : B ≤ w.heap.size) :
    Calls Tryz.prog 94 #[.slice A l.length c] w (Put l w) := by
  obtain ⟨h0, h64, h513, hst⟩ := hok
  have c64 : ¬ (64 < (l.length : Int)) := by omega
  have hls := left_size l h0
  go_enter Tryz.func94, Tryz.ntmps94
  go_wp2_with fail
  go_loopw [15, 4, 5] (fun u v x wr => ∃ i : Nat, u = .int .i64 i ∧ v = .bool false ∧ x = .string (leftT (l.take i)) ∧ i ≤ l.length ∧ Steps wr B A l ∧ Below w.heap.size w wr) (fun u _ _ _ => l.length - (intOf u).toNat)
  case atStart => exact ⟨0, rfl, rfl, rfl, by omega, hS, Below.refl _ _⟩
  case round =>
    clear hS
    obtain ⟨i, rfl, rfl, rfl, hi, hS, hb⟩ := hrel
    by_cases h : i < l.length
    · obtain ⟨ad, Ak, ck, hA, hab, c0, c1, hP⟩ := hS.at_ h
      obtain ⟨hs1, hs2⟩ := hst l[i] (List.getElem_mem h)
      have hz := leftT_le hi
      have hsz : (stepT l[i]).size ≤ 1000 := by
        have h1 := sizeT_take h
        have h2 := sizeT_le (l := l) (i + 1) h
        omega
      have hnx : leftT (l.take (i + 1)) = (if i = 0 then leftT (l.take i) else leftT (l.take i) ++ ⟨#[47]⟩) ++ stepT l[i] := by
        cases i with
        | zero => rw [leftT_one h0, if_pos rfl]; show _ = (⟨#[]⟩ : ByteArray) ++ _; rw [nil_ba]
        | succ j => rw [leftT_succ h, if_neg (by omega)]
      obtain ⟨s, hs⟩ : ∃ s, l[i] = s := ⟨_, rfl⟩
      rw [hs] at c0 c1 hP hs1 hs2 hnx hsz
      subst hA
      have HM := fun (w2 : World) => refMay_ok s hs1 hs2 Ak ck B w2
      have HT := fun (w2 : World) => refText_ok s hs1 hs2 Ak ck B w2
      unfold stepV at HM HT
      have hbs := Nat.le_trans hB hb.size
      have P1 := hP.alloc hbs (.cells #[.string s.name, .slice Ak s.keys.length ck] 92)
      have S1 : Steps _ B (some ad) l := hS.alloc hbs (.cells #[.string s.name, .slice Ak s.keys.length ck] 92)
      have K1 := Blk.new wr 92 #[.string s.name, .slice Ak s.keys.length ck]
      have B1 := hb.alloc hb.size (.cells #[.string s.name, .slice Ak s.keys.length ck] 92)
      have e10 := K1.at_ 0 (v := .string s.name) rfl
      have e11 := K1.at_ 1 (v := .slice Ak s.keys.length ck) rfl
      have HM1 := HM _ P1 (Nat.le_trans hB B1.size)
      obtain ⟨ac, hac⟩ : ∃ ac, leftT (l.take i) = ac := ⟨_, rfl⟩
      obtain ⟨tt, htt⟩ : ∃ tt, stepT s = tt := ⟨_, rfl⟩
      rw [hac] at hz hnx ⊢
      rw [htt] at HT hnx hsz
      have HZ := Lib.hid hnx
      clear hs htt hac hnx HM hP hS hb
      rcases (show i = 0 ∨ 0 < i by omega) with hi0 | hi0
      · have ci : ¬ (0 < (i : Int)) := by omega
        have HI := Lib.hid hi0
        clear hi0
        go_wp2_with (first | (go_at_call 145; refine HM1.mono ?_; rintro e w3 ⟨rfl, hb3⟩; have P3 := P1.below (hb3.mono (Nat.le_trans hB B1.size)); have S3 := S1.below (hb3.mono (Nat.le_trans hB B1.size)); have K3 := K1.below hb3 K1.lt; have B3 := B1.trans (hb3.mono B1.size); have e30 := K3.at_ 0 (v := .string s.name) rfl; have e31 := K3.at_ 1 (v := .slice Ak s.keys.length ck) rfl; have HT3 := HT w3 P3 (Nat.le_trans hB B3.size)) | (go_at_call 146; refine HT3.mono ?_; rintro e w4 ⟨rfl, hb4⟩; have S4 := S3.below (hb4.mono (Nat.le_trans hB B3.size)); have B4 := B3.trans (hb4.mono B3.size)))
        go_roundw
        case rel => exact ⟨i + 1, by go_num, by trivial, by rw [HZ.out, if_pos HI.out], by omega, S4, B4⟩
        case measure => simp [intOf]; omega
      · have ci : (0 < (i : Int)) := by omega
        go_wp2_with (first | (go_at_call 145; refine HM1.mono ?_; rintro e w3 ⟨rfl, hb3⟩; have P3 := P1.below (hb3.mono (Nat.le_trans hB B1.size)); have S3 := S1.below (hb3.mono (Nat.le_trans hB B1.size)); have K3 := K1.below hb3 K1.lt; have B3 := B1.trans (hb3.mono B1.size); have e30 := K3.at_ 0 (v := .string s.name) rfl; have e31 := K3.at_ 1 (v := .slice Ak s.keys.length ck) rfl; have HT3 := HT w3 P3 (Nat.le_trans hB B3.size)) | (go_at_call 146; refine HT3.mono ?_; rintro e w4 ⟨rfl, hb4⟩; have S4 := S3.below (hb4.mono (Nat.le_trans hB B3.size)); have B4 := B3.trans (hb4.mono B3.size)))
        go_roundw
        case rel => exact ⟨i + 1, by go_num, by trivial, by rw [HZ.out, if_neg (by omega)], by omega, S4, B4⟩
        case measure => simp [intOf]; omega
    · obtain rfl : i = l.length := by omega
      rw [List.take_length]
      have hfin : ¬ (512 : Int) < ((leftT l).size : Int) := by omega
      go_wp2_with fail
      refine bodyPost_ret (v := .tuple #[.string (leftT l), .int .i64 0]) ?_ rfl ⟨rfl, hb⟩
      simp [results, Tryz.results94, go_sem]
end Go.Proofs.YtjmebclcmpfdmaaGreatDoor
