/-
  Rows of numbers and of bytes in memory, and what append makes of them; the reference's at, Plus, Less. Conditions: sizes.
-/
import Derived.Test.YtpfldlbdmhhjdaaGreatDoorDm
import Derived.LoopN
import Derived.Deep.AppendLies
import Derived.Laws.OwnMore
import Derived.OwnWalk
set_option linter.unusedVariables false
namespace Go.Proofs.YtpfldlbdmhhjdaaGreatDoor
open Go.RowKit Go.Fl Go.Sort
def ncells (l : List Nat) : List Value := l.map fun n : Nat => Value.int .i64 (n : Int)
theorem ncells_len (l : List Nat) : (ncells l).length = l.length := by simp [ncells]
theorem ncells_get {l : List Nat} {j : Nat} (h : j < l.length) : (ncells l)[j]? = some (.int .i64 (l[j] : Int)) := by simp [ncells, h]
/-- a slice of ints that reads as a row, below B -/
def RowI (w : World) (B : Nat) (v : Value) (l : List Nat) : Prop :=
  ∃ A c, v = .slice A l.length c ∧ (0 < l.length → ∃ ad : Addr, A = some ad ∧ ad.block < B ∧ ∀ j (h : j < l.length), w.cell? (ad.add j) = some (.int .i64 (l[j] : Int)))
theorem RowI.below {w w' : World} {B : Nat} {v : Value} {l : List Nat} (h : RowI w B v l) (hb : Below B w w') : RowI w' B v l := by
  obtain ⟨A, c, rfl, hr⟩ := h
  refine ⟨A, c, rfl, fun hn => ?_⟩
  obtain ⟨ad, e, hlt, hc⟩ := hr hn
  exact ⟨ad, e, hlt, fun j hj => (hb.cell (p := ad.add j) (by rw [add_block]; exact hlt)).trans (hc j hj)⟩
theorem RowI.more {w : World} {B B' : Nat} {v : Value} {l : List Nat} (h : RowI w B v l) (hB : B ≤ B') : RowI w B' v l := by
  obtain ⟨A, c, rfl, hr⟩ := h
  refine ⟨A, c, rfl, fun hn => ?_⟩
  obtain ⟨ad, e, hlt, hc⟩ := hr hn
  exact ⟨ad, e, by omega, hc⟩
theorem RowI.nil (w : World) (B : Nat) : RowI w B (.slice none 0 0) [] := ⟨none, 0, rfl, fun h => by simp at h⟩
theorem RowI.of_own {w : World} {base : Nat} {v : Value} {l : List Nat} (h : w.ownsRow base 3 1 v l.length (ncells l)) : RowI w w.heap.size v l := by
  rcases h.2 with ⟨rfl, h0⟩ | ⟨g, cap, cur, rfl, hb, hg, hn, hm, hs, ht⟩
  · exact ⟨none, 0, by rw [h0], fun hn => by omega⟩
  · refine ⟨_, cap, rfl, fun hpos => ⟨_, rfl, ?_, fun j hj => ?_⟩⟩
    · rcases Nat.lt_or_ge g w.heap.size with q | q
      · exact q
      · rw [Array.getElem?_eq_none q] at hg; cases hg
    · rw [Lib.add_plain, Nat.zero_add]
      have h1 : (cur.toList.take (l.length * 1))[j]? = some (.int .i64 (l[j] : Int)) := by rw [ht]; exact ncells_get hj
      rw [List.getElem?_take, if_pos (by omega)] at h1
      unfold World.cell?
      rw [hg]
      simpa using h1
theorem infoI : (Tryz.prog.info? 3).map (fun i => (i.zero, i.size, i.bytes)) = some (some (.int .i64 0), 1, 8) := by kernel_rfl
theorem wpNat {ops : Array Oper} {rest : List Oper} {o : Oper} {a : Act} {Q : Exit → Act → World → Prop} (hgd : o.guard = none) (sI xI : Operand)
    (ho : o.op = .call { callee := .builtin .append, args := #[sI, xI], argTypes := #[50, 50] })
    (base : Nat) (w0 : World) (v : Value) (l : List Nat) (n : Int) (d : Nat) (hd : n = (d : Int)) (hs : a.eval sI = v) (hown : w0.ownsRow base 3 1 v l.length (ncells l)) (hx : a.eval xI = .slice (some ⟨w0.heap.size, 0, none⟩) 1 1)
    (hl : l.length ≤ 1000000000000) (hb : base ≤ w0.heap.size)
    (h : ∀ v' w', w'.ownsRow base 3 1 v' (l ++ [d]).length (ncells (l ++ [d])) → (w0.alloc (.cells #[.int .i64 n] 3)).grownBy w' v.ownBlock → wpList Tryz.prog ops Q rest (a.put o.dst v') w') :
    wpList Tryz.prog ops Q (o :: rest) a (w0.alloc (.cells #[.int .i64 n] 3)) := by
  obtain ⟨i0, hi0, hz0, hz1, hz2⟩ := info_parts infoI
  subst hd
  refine wpList_append_own _ hgd sI xI 50 ho base 3 i0 _ 1 8 Tryz.underlying50 hi0 hz0 hz1 hz2 rfl (by omega) v l.length (ncells l) hs (hown.alloc _) ⟨w0.heap.size, 0, none⟩ 1 1 [.int .i64 (d : Int)] hx rfl ?_ ?_ ?_ ?_ ?_ ?_
  · intro j u hj
    rw [Lib.add_plain, Nat.zero_add]
    cases j with
    | zero =>
      simp only [List.getElem?_cons_zero, Option.some.injEq] at hj
      subst hj
      simp
    | succ j => simp at hj
  · intro u hu; simp at hu; subst hu; rfl
  · unfold maxLen; omega
  · omega
  · simp only [World.size_alloc]; omega
  · intro v' w' h1 h2 _
    refine h v' w' ?_ h2
    have e : ncells (l ++ [d]) = ncells l ++ [.int .i64 (d : Int)] := by simp [ncells]
    rw [e, List.length_append]
    exact h1
/-- what was below a row's blocks is as it was, when it has grown -/
theorem own_below {w0 w w' : World} {v : Value} {l : List Nat} {n : Int} (hb : Below w0.heap.size w0 w) (hown : w.ownsRow w0.heap.size 3 1 v l.length (ncells l)) (hg : (w.alloc (.cells #[.int .i64 n] 3)).grownBy w' v.ownBlock) : Below w0.heap.size w0 w' :=
  (hb.alloc hb.size _).grown hg (by have := hb.size; simp; omega) fun k hk => by
    rcases hown.2 with ⟨rfl, _⟩ | ⟨g, cap, cur, rfl, hbg, _⟩
    · cases hk
    · injection hk with hk
      subst hk
      exact hbg
theorem at_any (v : Value) (l : List Nat) (B : Nat) (i : Nat) (hl : l.length ≤ 1000000) (w : World) (h : RowI w B v l) : Calls Tryz.prog 36 #[v, .int .i64 i] w fun e w' => e = .returned (.int .i64 (atD l i)) ∧ w' = w := by
  obtain ⟨A, c, rfl, hr⟩ := h
  by_cases hi : i < l.length
  · obtain ⟨ad, rfl, _, hc⟩ := hr (by omega)
    have c1 := hc i hi
    have hv : (l[i] : Nat) = atD l i := (atD_in hi).symm
    rw [hv] at c1
    generalize atD l i = d at *
    have h0 : (0 : Int) ≤ (i : Int) := by omega
    have hi2 : (i : Int) < (l.length : Int) := by omega
    clear hc hr hv
    generalize l.length = n at *
    go_enter Tryz.func36, Tryz.ntmps36
    go_wp2_with fail
    refine bodyPost_ret (v := .int .i64 d) ?_ rfl ⟨rfl, rfl⟩
    simp [results, Tryz.results36, go_sem]
  · have hv := atD_out (l := l) (i := i) (by omega)
    rw [hv]
    have hi2 : ¬ (i : Int) < (l.length : Int) := by omega
    clear hr hv
    generalize l.length = n at *
    go_enter Tryz.func36, Tryz.ntmps36
    go_wp2_with fail
    refine bodyPost_ret (v := .int .i64 0) ?_ rfl ⟨rfl, rfl⟩
    simp [results, Tryz.results36, go_sem]
set_option maxRecDepth 100000 in
set_option maxHeartbeats 4000000 in
theorem Plus_any (va vb : Value) (l m : List Nat) (B : Nat) (hl : Dig l) (hm : Dig m) (hll : l.length ≤ 100000) (hml : m.length ≤ 100000) (w : World) (ra : RowI w B va l) (rb : RowI w B vb m) (hB : B ≤ w.heap.size) :
    Calls Tryz.prog 35 #[va, vb] w fun e w' => ∃ v, e = .returned v ∧ RowI w' w'.heap.size v (plusR l m 0) ∧ Below w.heap.size w w' := by
  have ra0 := ra
  have rb0 := rb
  obtain ⟨A, c1, rfl, _⟩ := ra
  obtain ⟨A', c2, rfl, _⟩ := rb
  obtain ⟨n, hn⟩ : ∃ n, l.length = n := ⟨_, rfl⟩
  obtain ⟨k, hk⟩ : ∃ k, m.length = k := ⟨_, rfl⟩
  rw [hn] at ra0
  rw [hk] at rb0
  have HN := Lib.hid hn
  have HM := Lib.hid hk
  have HB := Lib.hid hB
  rw [hn, hk]
  rw [hn] at hll
  rw [hk] at hml
  clear hn hk hB
  go_enter Tryz.func35, Tryz.ntmps35
  go_wp2_with fail
  go_loopw [5, 6, 7] (fun u v t wr => ∃ (i c : Nat) (O : List Nat), wr.ownsRow w.heap.size 3 1 u O.length (ncells O) ∧ v = .int .i64 c ∧ t = .int .i64 i ∧ c ≤ 1 ∧ i ≤ 100001 ∧ O.length = i ∧ plusR l m 0 = O ++ plusR (l.drop i) (m.drop i) c ∧ Below w.heap.size w wr) (fun _ _ t _ => 100002 - (intOf t).toNat)
  case atStart => exact ⟨0, 0, [], World.ownsRow_nil .., rfl, rfl, by omega, by omega, rfl, by simp, Below.refl _ _⟩
  case round =>
    obtain ⟨i, c, O, hown, rfl, rfl, hc, hi, hO, hP, hb⟩ := hrel
    have key : (i < n) ∨ (¬ i < n ∧ i < k) ∨ (¬ i < n ∧ ¬ i < k ∧ 0 < c) ∨ (¬ i < n ∧ ¬ i < k ∧ c = 0) := by omega
    have hP2 := Lib.hid hP
    have hlen := plusR_len l m 0
    have HO := Lib.hid hO
    rcases key with h1 | ⟨h1, h2⟩ | ⟨h1, h2, h3⟩ | ⟨h1, h2, h3⟩
    case inr.inr.inr =>
      subst h3
      have q1 : ¬ (i : Int) < (n : Int) := by omega
      have q2 : ¬ (i : Int) < (k : Int) := by omega
      have q3 := plusR_end l m i (by have := HN.out; omega) (by have := HM.out; omega)
      rw [q3, List.append_nil] at hP
      clear hlen
      rw [← hP] at hown
      have hrow := RowI.of_own hown
      clear hP hown
      go_wp2_with fail
      refine bodyPost_ret (v := u5) ?_ rfl ⟨u5, rfl, hrow, hb⟩
      simp [results, Tryz.results35, go_sem]
    case inl => 
      have q1 : (i : Int) < (n : Int) := by omega
      have hend : i < l.length ∨ i < m.length ∨ 0 < c := by have := HN.out; have := HM.out; omega
      have hst := plusR_step l m c i hc hend
      have ra1 := ra0.below (hb.mono HB.out)
      have rb1 := rb0.below (hb.mono HB.out)
      have HA := at_any (.slice A n c1) l B i (by have := HN.out; omega) wr ra1
      have HA2 := at_any (.slice A' k c2) m B i (by have := HM.out; omega) wr rb1
      have a1 := atD_lt hl i
      have a2 := atD_lt hm i
      have hi1 : i ≤ 100000 := by
        have e := congrArg List.length hP
        rw [hst, List.length_append, List.length_cons] at e
        have := HN.out
        have := HM.out
        omega
      rw [hst] at hP
      generalize atD l i = x at *
      generalize atD m i = y at *
      obtain ⟨z, hz⟩ : ∃ z : Nat, z = x + y + c := ⟨_, rfl⟩
      rw [← hz] at hP
      obtain ⟨r, hr⟩ : ∃ r : Nat, r = z % 10 := ⟨_, rfl⟩
      obtain ⟨s, hs⟩ : ∃ s : Nat, s = z / 10 := ⟨_, rfl⟩
      rw [← hr, ← hs] at hP
      have g1 : IntKind.i64.wrap ((x : Int) + (y : Int)) = (x : Int) + (y : Int) := IntWalk.i64_in _ (by omega)
      have g2 : IntKind.i64.wrap ((x : Int) + (y : Int) + (c : Int)) = (z : Int) := by rw [IntWalk.i64_in _ (by omega)]; omega
      have g3 : Int.tmod (z : Int) 10 = (r : Int) := by rw [Int.tmod_eq_emod_of_nonneg (by omega)]; omega
      have g4 : Int.tdiv (z : Int) 10 = (s : Int) := by rw [Int.tdiv_eq_ediv_of_nonneg (by omega)]; omega
      have hs1 : s ≤ 1 := by omega
      have hO2 : O.length ≤ 1000000000000 := by omega
      have HP := Lib.hid hP
      have hbz := hb.size
      clear hP hst hlen hr hs hz ra1 rb1 hP2 a1 a2 hO hend
      go_wp2_with (first | (go_at_call 36; (first | with_reducible refine HA.mono ?_ | with_reducible refine HA2.mono ?_); rintro e w1 ⟨rfl, rfl⟩) | (at_builtin; refine wpNat rfl (.tmp 34) (.tmp 37) rfl w.heap.size _ u5 O (r : Int) r rfl (by rfl) hown (by rfl) hO2 hbz ?_; intro v1 w2 hown2 hg2))
      go_roundw
      case rel =>
        have hO3 := HO.out
        exact ⟨i + 1, s, O ++ [r], hown2, rfl, by go_num, hs1, by omega, by rw [List.length_append, hO3]; rfl, by rw [HP.out]; simp, own_below hb hown hg2⟩
      case measure => simp [intOf]; omega
    case inr.inl =>
      have q1 : ¬ (i : Int) < (n : Int) := by omega
      have q2 : (i : Int) < (k : Int) := by omega
      have hend : i < l.length ∨ i < m.length ∨ 0 < c := by have := HN.out; have := HM.out; omega
      have hst := plusR_step l m c i hc hend
      have ra1 := ra0.below (hb.mono HB.out)
      have rb1 := rb0.below (hb.mono HB.out)
      have HA := at_any (.slice A n c1) l B i (by have := HN.out; omega) wr ra1
      have HA2 := at_any (.slice A' k c2) m B i (by have := HM.out; omega) wr rb1
      have a1 := atD_lt hl i
      have a2 := atD_lt hm i
      have hi1 : i ≤ 100000 := by
        have e := congrArg List.length hP
        rw [hst, List.length_append, List.length_cons] at e
        have := HN.out
        have := HM.out
        omega
      rw [hst] at hP
      generalize atD l i = x at *
      generalize atD m i = y at *
      obtain ⟨z, hz⟩ : ∃ z : Nat, z = x + y + c := ⟨_, rfl⟩
      rw [← hz] at hP
      obtain ⟨r, hr⟩ : ∃ r : Nat, r = z % 10 := ⟨_, rfl⟩
      obtain ⟨s, hs⟩ : ∃ s : Nat, s = z / 10 := ⟨_, rfl⟩
      rw [← hr, ← hs] at hP
      have g1 : IntKind.i64.wrap ((x : Int) + (y : Int)) = (x : Int) + (y : Int) := IntWalk.i64_in _ (by omega)
      have g2 : IntKind.i64.wrap ((x : Int) + (y : Int) + (c : Int)) = (z : Int) := by rw [IntWalk.i64_in _ (by omega)]; omega
      have g3 : Int.tmod (z : Int) 10 = (r : Int) := by rw [Int.tmod_eq_emod_of_nonneg (by omega)]; omega
      have g4 : Int.tdiv (z : Int) 10 = (s : Int) := by rw [Int.tdiv_eq_ediv_of_nonneg (by omega)]; omega
      have hs1 : s ≤ 1 := by omega
      have hO2 : O.length ≤ 1000000000000 := by omega
      have HP := Lib.hid hP
      have hbz := hb.size
      clear hP hst hlen hr hs hz ra1 rb1 hP2 a1 a2 hO hend
      go_wp2_with (first | (go_at_call 36; (first | with_reducible refine HA.mono ?_ | with_reducible refine HA2.mono ?_); rintro e w1 ⟨rfl, rfl⟩) | (at_builtin; refine wpNat rfl (.tmp 34) (.tmp 37) rfl w.heap.size _ u5 O (r : Int) r rfl (by rfl) hown (by rfl) hO2 hbz ?_; intro v1 w2 hown2 hg2))
      go_roundw
      case rel =>
        have hO3 := HO.out
        exact ⟨i + 1, s, O ++ [r], hown2, rfl, by go_num, hs1, by omega, by rw [List.length_append, hO3]; rfl, by rw [HP.out]; simp, own_below hb hown hg2⟩
      case measure => simp [intOf]; omega
    case inr.inr.inl =>
      have q1 : ¬ (i : Int) < (n : Int) := by omega
      have q2 : ¬ (i : Int) < (k : Int) := by omega
      have q3 : (0 : Int) < (c : Int) := by omega
      have hend : i < l.length ∨ i < m.length ∨ 0 < c := by have := HN.out; have := HM.out; omega
      have hst := plusR_step l m c i hc hend
      have ra1 := ra0.below (hb.mono HB.out)
      have rb1 := rb0.below (hb.mono HB.out)
      have HA := at_any (.slice A n c1) l B i (by have := HN.out; omega) wr ra1
      have HA2 := at_any (.slice A' k c2) m B i (by have := HM.out; omega) wr rb1
      have a1 := atD_lt hl i
      have a2 := atD_lt hm i
      have hi1 : i ≤ 100000 := by
        have e := congrArg List.length hP
        rw [hst, List.length_append, List.length_cons] at e
        have := HN.out
        have := HM.out
        omega
      rw [hst] at hP
      generalize atD l i = x at *
      generalize atD m i = y at *
      obtain ⟨z, hz⟩ : ∃ z : Nat, z = x + y + c := ⟨_, rfl⟩
      rw [← hz] at hP
      obtain ⟨r, hr⟩ : ∃ r : Nat, r = z % 10 := ⟨_, rfl⟩
      obtain ⟨s, hs⟩ : ∃ s : Nat, s = z / 10 := ⟨_, rfl⟩
      rw [← hr, ← hs] at hP
      have g1 : IntKind.i64.wrap ((x : Int) + (y : Int)) = (x : Int) + (y : Int) := IntWalk.i64_in _ (by omega)
      have g2 : IntKind.i64.wrap ((x : Int) + (y : Int) + (c : Int)) = (z : Int) := by rw [IntWalk.i64_in _ (by omega)]; omega
      have g3 : Int.tmod (z : Int) 10 = (r : Int) := by rw [Int.tmod_eq_emod_of_nonneg (by omega)]; omega
      have g4 : Int.tdiv (z : Int) 10 = (s : Int) := by rw [Int.tdiv_eq_ediv_of_nonneg (by omega)]; omega
      have hs1 : s ≤ 1 := by omega
      have hO2 : O.length ≤ 1000000000000 := by omega
      have HP := Lib.hid hP
      have hbz := hb.size
      clear hP hst hlen hr hs hz ra1 rb1 hP2 a1 a2 hO hend
      go_wp2_with (first | (go_at_call 36; (first | with_reducible refine HA.mono ?_ | with_reducible refine HA2.mono ?_); rintro e w1 ⟨rfl, rfl⟩) | (at_builtin; refine wpNat rfl (.tmp 34) (.tmp 37) rfl w.heap.size _ u5 O (r : Int) r rfl (by rfl) hown (by rfl) hO2 hbz ?_; intro v1 w2 hown2 hg2))
      go_roundw
      case rel =>
        have hO3 := HO.out
        exact ⟨i + 1, s, O ++ [r], hown2, rfl, by go_num, hs1, by omega, by rw [List.length_append, hO3]; rfl, by rw [HP.out]; simp, own_below hb hown hg2⟩
      case measure => simp [intOf]; omega
end Go.Proofs.YtpfldlbdmhhjdaaGreatDoor
