/-
  Contract of the reference's Parse: what a text falls into, or what is wrong with it and where. Condition: the text is short enough to be in memory.
-/
import Derived.Test.YtbgcngkofbelmaaDoorB
import Derived.Test.YtbgcngkofbelmaaDoorD
import Derived.Lib.IndexLaws
import Derived.Lib.IndexBytes
import Derived.WalkSpells
namespace Ph
theorem list_get (s : ByteArray) (k : Nat) (h : k < s.size) : s.data.toList[k]? = some s[k] := by
  rw [List.getElem?_eq_getElem (by simpa using h)]; rfl
theorem idx_none {s : ByteArray} {i : Nat} {c : UInt8} (h : Go.Lib.indexByte (s.extract i s.size).data.toList c = -1) (k : Nat) (hk : k < s.size) (hi : i ≤ k) : s[k] ≠ c := by
  intro e
  have := Go.Lib.indexByte_none h (k - i)
  rw [Go.Lib.extract_to_end, List.getElem?_drop, show i + (k - i) = k by omega, list_get s k hk, e] at this
  exact this rfl
theorem idx_some {s : ByteArray} {i o : Nat} {c : UInt8} (h : Go.Lib.indexByte (s.extract i s.size).data.toList c = o) : ∃ hk : i + o < s.size, s[i + o] = c ∧ ∀ k (hk : k < s.size), i ≤ k → k < i + o → s[k] ≠ c := by
  obtain ⟨h1, h2⟩ := Go.Lib.indexByte_some h
  rw [Go.Lib.extract_to_end, List.getElem?_drop] at h1
  have hl : i + o < s.size := by
    rcases Nat.lt_or_ge (i + o) s.size with g | g
    · exact g
    · rw [List.getElem?_eq_none (by simpa using g)] at h1; cases h1
  rw [list_get s _ hl] at h1
  refine ⟨hl, by simpa using h1, fun k hk hi hko e => ?_⟩
  have := h2 (k - i) (by omega)
  rw [Go.Lib.extract_to_end, List.getElem?_drop, show i + (k - i) = k by omega, list_get s k hk, e] at this
  exact this rfl
end Ph
namespace Go.Proofs.YtbgcngkofbelmaaDoor
open Go.RowKit
open Ph
def pcells (l : List Pc) : List Value := l.flatMap fun p => [.int .i64 p.kind, .string p.text, .int .i64 p.place]
theorem pcells_length (l : List Pc) : (pcells l).length = l.length * 3 := by
  unfold pcells; induction l with
  | nil => rfl
  | cons p l ih => simp only [List.flatMap_cons, List.length_append, ih]; simp; omega
theorem pcells_append (l m : List Pc) : pcells (l ++ m) = pcells l ++ pcells m := by unfold pcells; simp
theorem pcells_one (l : List Pc) : ∀ u ∈ pcells l, u.oneCell' = true := by
  intro u hu; unfold pcells at hu; simp at hu
  obtain ⟨p, _, h⟩ := hu
  rcases h with rfl | rfl | rfl <;> rfl
theorem info31 : (Tryd.prog.info? 31).map (fun i => (i.zero, i.size, i.bytes)) = some (some (.agg #[.int .i64 0, .string ⟨#[]⟩, .int .i64 0]), 3, 32) := by kernel_rfl
def sp (e k : Int) : Value := .agg #[.int .i64 e, .int .i64 k]
/-- what may be wrong with a text -/
def Wrong (s : ByteArray) (e k : Int) : Prop :=
  (4096 < s.size ∧ e = 3 ∧ k = 4096) ∨ (s.size ≤ 4096 ∧ ∃ j : Nat, brk s 0 = some j ∧ e = 6 ∧ k = j) ∨ (s.size ≤ 4096 ∧ brk s 0 = none ∧ ∃ j : Nat, Par s 0 (.error j) ∧ e = 280 ∧ k = j)
def Fine (s : ByteArray) (l : List Pc) : Prop := s.size ≤ 4096 ∧ brk s 0 = none ∧ Par s 0 (.ok l)
def Parsed (s : ByteArray) (w : World) (e : Ending) (w' : World) : Prop :=
  (∃ (l : List Pc) (v : Value), Fine s l ∧ e = .returned (.tuple #[v, sp 0 0]) ∧ w'.ownsRow w.heap.size 31 3 v l.length (pcells l) ∧ Below w.heap.size w w') ∨
  (∃ a b : Int, Wrong s a b ∧ e = .returned (.tuple #[.slice none 0 0, sp a b]) ∧ Below w.heap.size w w')
theorem reads_new3 (w : World) (a b c : Value) (t : TypeId) : Reads (w.alloc (.cells #[a, b, c] t)) (w.heap.size + 1) 3 (some ⟨w.heap.size, 0, none⟩) 1 [a, b, c] := by
  refine ⟨rfl, fun _ => ⟨_, rfl, by simp, ?_⟩⟩
  intro j u hu
  have hc := (Blk.new w t #[a, b, c]).cell j
  have he : (⟨w.heap.size, 0, none⟩ : Addr).add j = ⟨w.heap.size, j, none⟩ := by
    unfold Addr.add; split
    · rename_i h; rw [h]
    · simp
  rw [he, hc]; simpa using hu
theorem grown_set (w : World) (p : Addr) (u : Value) : w.grownBy (w.setCell p u) (some p.block) :=
  ⟨rfl, rfl, rfl, by simp [World.setCell], fun k _ hne => Below.heap_setCell w p u k (fun e => hne (by rw [e]))⟩
theorem grown_below {w w' : World} (h : Below w.heap.size w w') : w.grownBy w' none := ⟨h.os, h.tape, h.output, h.size, fun k hk _ => h.block k hk⟩
section
variable {w w' : World} {base e size n : Nat} {v : Value} {xs : List Value}
theorem own_far (h : w.ownsRow base e size v n xs) {p : Addr} (hp : v.ownBlock ≠ some p.block) (u : Value) : (w.setCell p u).ownsRow base e size v n xs := h.kept (grown_set w p u) (Or.inr hp)
theorem own_below (h : w.ownsRow base e size v n xs) (hb : Below w.heap.size w w') : w'.ownsRow base e size v n xs :=
  h.kept (grown_below hb) (by cases v.ownBlock with | none => exact Or.inl rfl | some k => exact Or.inr (fun e => by cases e))
theorem own_drew (h : w.ownsRow base e size v n xs) : w.drew.ownsRow base e size v n xs := h
theorem own_drewN (h : w.ownsRow base e size v n xs) (k : Nat) : (w.drewN k).ownsRow base e size v n xs := h
theorem own_base {b : Nat} (h : w.ownsRow base e size v n xs) (hb : b ≤ base) : w.ownsRow b e size v n xs := by
  obtain ⟨h1, h2⟩ := h
  refine ⟨h1, ?_⟩
  rcases h2 with h2 | ⟨g, cap, cur, a, b', c⟩
  · exact Or.inl h2
  · exact Or.inr ⟨g, cap, cur, a, by omega, c⟩
end
theorem own_snoc {w : World} {base : Nat} {v : Value} (l : List Pc) (p : Pc) (h : w.ownsRow base 31 3 v (l.length + 1) (pcells l ++ [.int .i64 p.kind, .string p.text, .int .i64 p.place])) : w.ownsRow base 31 3 v (l ++ [p]).length (pcells (l ++ [p])) := by
  rw [pcells_append, List.length_append]
  exact h
theorem wpPiece {ops : Array Oper} {rest : List Oper} {o : Oper} {a : Act} {Q : Exit → Act → World → Prop} (hgd : o.guard = none) (sI xI : Operand)
    (ho : o.op = .call { callee := .builtin .append, args := #[sI, xI], argTypes := #[23, 23] })
    (base : Nat) (w0 : World) (v : Value) (l : List Pc) (p : Pc) (hs : a.eval sI = v) (hown : w0.ownsRow base 31 3 v l.length (pcells l)) (hx : a.eval xI = .slice (some ⟨w0.heap.size, 0, none⟩) 1 1)
    (hl : l.length ≤ 1000000000000) (hb : base ≤ w0.heap.size)
    (h : ∀ v' w', w'.ownsRow base 31 3 v' (l ++ [p]).length (pcells (l ++ [p])) → (w0.alloc (.cells #[.int .i64 p.kind, .string p.text, .int .i64 p.place] 31)).grownBy w' v.ownBlock → wpList Tryd.prog ops Q rest (a.put o.dst v') w') :
    wpList Tryd.prog ops Q (o :: rest) a (w0.alloc (.cells #[.int .i64 p.kind, .string p.text, .int .i64 p.place] 31)) := by
  obtain ⟨i0, hi0, hz0, hz1, hz2⟩ := info_parts info31
  refine wpList_append_any _ hgd sI xI 23 ho base 31 i0 _ 3 32 Tryd.underlying23 hi0 hz0 hz1 hz2 rfl (by omega) v l.length (pcells l) hs (hown.alloc _) (w0.heap.size + 1) _ 1 1 [.int .i64 p.kind, .string p.text, .int .i64 p.place] hx (reads_new3 w0 _ _ _ _) ?_ ?_ ?_ ?_ ?_
  · intro u hu; simp at hu; rcases hu with rfl | rfl | rfl <;> rfl
  · unfold maxLen; omega
  · omega
  · simp only [World.size_alloc]; omega
  · intro v' w' h1 h2 _
    exact h v' w' (own_snoc l p h1) h2
theorem par_text {s : ByteArray} {l : List Pc} {i k : Nat} (h : ∀ r, Par s i r → Par s 0 (pre l r)) (hi : i < s.size) (hk : i < k) (hk' : k ≤ s.size) (g : ∀ m (hm : m < s.size), i ≤ m → m < k → ¬ brace s[m]) (g' : ∀ hk : k < s.size, brace s[k]) :
    ∀ r, Par s k r → Par s 0 (pre (l ++ [⟨1, s.extract i k, 0⟩]) r) := by
  intro r hr
  rw [← pre_pre]
  exact h _ (Par.text i k r hi hk hk' g g' hr)
theorem u8_ne {a b : UInt8} (h : a ≠ b) : a.toNat ≠ b.toNat := fun e => h (UInt8.toNat_inj.1 e)
theorem par_end {s : ByteArray} {l : List Pc} {i : Nat} (h : ∀ r, Par s i r → Par s 0 (pre l r)) (hi : ¬ i < s.size) : Par s 0 (.ok l) := by
  have := h _ (Par.fin i hi)
  simpa [pre] using this
theorem idxB (s : ByteArray) (c : Int) (w : World) : Calls Tryd.prog 28 #[.string s, .int .u8 c] w fun e w' => e = .returned (.int .i64 (Lib.indexByte s.data.toList c.toNat.toUInt8)) ∧ w = w' :=
  (Tryd.strings_IndexByte s c w).mono fun _ _ ⟨h1, h2⟩ => ⟨h1, h2.symm⟩
theorem par_place {s : ByteArray} {l : List Pc} {i o m : Nat} (h : ∀ r, Par s i r → Par s 0 (pre l r)) (hi : i < s.size) (c : s[i] = 123) (ho : 0 < o) (hk : i + o < s.size) (e : s[i + o] = 125) (g : ∀ k (hk : k < s.size), i ≤ k → k < i + o → s[k] ≠ 125)
    (hp : placeOf (s.extract (i + 1) (i + o)).data.toList = some m) : ∀ r, Par s (i + o + 1) r → Par s 0 (pre (l ++ [⟨2, ⟨#[]⟩, m⟩]) r) := by
  intro r hr
  rw [← pre_pre]
  exact h _ (Par.opens i (i + o) m r hi c (by omega) hk e (fun k hk h1 h2 => g k hk (by omega) h2) hp hr)
set_option maxRecDepth 100000 in
set_option maxHeartbeats 4000000 in
theorem refParse (s : ByteArray) (hs : s.size ≤ 281474976710656) (w : World) : Calls Tryd.prog 12 #[.string s] w (Parsed s w) := by
  by_cases h0 : 4096 < s.size
  · have h1 : (4096 : Int) < s.size := by omega
    go_enter Tryd.func12, Tryd.ntmps12
    go_wp2_with fail
    refine bodyPost_ret (v := .tuple #[.slice none 0 0, sp 3 4096]) ?_ rfl (Or.inr ⟨_, _, Or.inl ⟨h0, rfl, rfl⟩, rfl, ?_⟩)
    · simp [sp, results, Tryd.results12, go_sem]
    · exact (Below.refl _ _).alloc (Nat.le_refl _) _
  have h1 : s.size ≤ 4096 := by omega
  have HB := broken_any s hs
  cases hb : brk s 0 with
  | some j =>
    have H := Lib.hid hb
    rw [brkI_some hb] at HB
    clear hb
    go_enter Tryd.func12, Tryd.ntmps12
    go_wp2_with (go_at_call 27; refine (HB _).mono ?_; rintro e w' ⟨rfl, rfl⟩)
    refine bodyPost_ret (v := .tuple #[.slice none 0 0, sp 6 j]) ?_ rfl (Or.inr ⟨_, _, Or.inr (Or.inl ⟨h1, j, H.out, rfl, rfl⟩), rfl, ?_⟩)
    · simp [sp, results, Tryd.results12, go_sem]
    · exact (Below.refl _ _).alloc (Nat.le_refl _) _
  | none =>
    have H := Lib.hid hb
    rw [brkI_none hb] at HB
    clear hb
    obtain ⟨i0, hi0, hz0, hz1, hz2⟩ := info_parts info31
    go_enter Tryd.func12, Tryd.ntmps12
    go_wp2_with (go_at_call 27; refine (HB _).mono ?_; rintro e w' ⟨rfl, rfl⟩)
    go_loopw [5, 6] (fun u v wr => ∃ (i : Nat) (l : List Pc), v = .int .i64 i ∧ wr.ownsRow w.heap.size 31 3 u l.length (pcells l) ∧ Blk wr w.heap.size 26 #[.int .i64 0, .int .i64 0] ∧ Below w.heap.size w wr ∧ i ≤ s.size ∧ l.length ≤ i ∧ (∀ r, Par s i r → Par s 0 (pre l r))) (fun _ v _ => s.size - (intOf v).toNat)
    case atStart =>
      refine ⟨0, [], rfl, ?_, Blk.new _ _ _, (Below.refl _ w).alloc (Nat.le_refl _) _, by omega, by simp, fun r h => by rw [pre_nil]; exact h⟩
      exact ⟨by simp [pcells], Or.inl ⟨rfl, rfl⟩⟩
    case round =>
      obtain ⟨i, l, rfl, hown, hB, hbw, hi, hl, hpar⟩ := hrel
      have HP := Lib.hid hpar
      have hl9 : l.length ≤ 1000000000000 := by omega
      clear hpar
      by_cases hlt : i < s.size
      · by_cases c1 : s[i] = 123
        · have hc0 := hB.at_ 0 (v := .int .i64 0) rfl
          have hc1 := hB.at_ 1 (v := .int .i64 0) rfl
          have hf := hB.frozen
          have t1 : ((s[i].toNat : Int) == 123) = true := by rw [c1]; rfl
          have HI := idxB (s.extract i s.size) 125
          have hge := Lib.indexByte_ge (s.extract i s.size).data.toList 125
          by_cases hx : Lib.indexByte (s.extract i s.size).data.toList 125 = -1
          · rw [show Lib.indexByte (s.extract i s.size).data.toList (125 : Int).toNat.toUInt8 = -1 from hx] at HI
            have E := Lib.hid (HP.out _ (Par.noclose i hlt c1 (fun k hk h2 => idx_none hx k hk (by omega))))
            clear c1 hx hge
            go_wp2_with (go_at_call 28; refine (HI _).mono ?_; rintro e w' ⟨rfl, rfl⟩)
            refine bodyPost_ret (v := .tuple #[.slice none 0 0, sp 280 i]) ?_ rfl (Or.inr ⟨_, _, Or.inr (Or.inr ⟨h1, H.out, i, E.out, rfl, rfl⟩), rfl, ?_⟩)
            · simp [sp, results, Tryd.results12, go_sem, hc0, hc1]
            · exact (hbw.setCell (by simp) _).setCell (by simp) _
          · obtain ⟨o, ho⟩ : ∃ o : Nat, Lib.indexByte (s.extract i s.size).data.toList 125 = o := ⟨_, (Int.toNat_of_nonneg (by omega)).symm⟩
            obtain ⟨hk, e1, e2⟩ := idx_some ho
            have o1 : 0 < o := by
              rcases Nat.eq_zero_or_pos o with g | g
              · subst g; rw [show s[i + 0] = s[i] from rfl, c1] at e1; exact absurd e1 (by decide)
              · exact g
            rw [show Lib.indexByte (s.extract i s.size).data.toList (125 : Int).toNat.toUInt8 = (o : Int) from ho] at HI
            have HN := number_any (s.extract (i + 1) (i + o))
            cases hp : placeOf (s.extract (i + 1) (i + o)).data.toList with
            | none =>
              rw [numI_none hp] at HN
              have E := Lib.hid (HP.out _ (Par.badplace i (i + o) hlt c1 (by omega) hk e1 (fun k hk h2 h3 => e2 k hk (by omega) h3) hp))
              clear c1 hx hge ho e1 e2 hp
              go_wp2_with (first | (go_at_call 28; refine (HI _).mono ?_; rintro e w' ⟨rfl, rfl⟩) | (go_at_call 29; refine (HN _).mono ?_; rintro e w' ⟨rfl, rfl⟩))
              refine bodyPost_ret (v := .tuple #[.slice none 0 0, sp 280 i]) ?_ rfl (Or.inr ⟨_, _, Or.inr (Or.inr ⟨h1, H.out, i, E.out, rfl, rfl⟩), rfl, ?_⟩)
              · simp [sp, results, Tryd.results12, go_sem, hc0, hc1]
              · exact (hbw.setCell (by simp) _).setCell (by simp) _
            | some m =>
              rw [numI_some hp] at HN
              have E := Lib.hid (par_place HP.out hlt c1 o1 hk e1 e2 hp)
              clear c1 hx hge ho e1 e2 hp
              go_wp2_with (first | (go_at_call 28; refine (HI _).mono ?_; rintro e w' ⟨rfl, rfl⟩) | (go_at_call 29; refine (HN _).mono ?_; rintro e w' ⟨rfl, rfl⟩) | (at_builtin; refine wpPiece rfl (.tmp 75) (.tmp 85) rfl w.heap.size wr u5 l ⟨2, ⟨#[]⟩, m⟩ rfl hown rfl hl9 hbw.size ?_; intro v1 w1 hown2 hg1))
              have hB1 := (hB.alloc (.cells #[.int .i64 2, .string ⟨#[]⟩, .int .i64 m] 31)).grown hg1 (fun e => own_blk_ne hown hB (by decide) e.symm)
              have hbw1 := (hbw.alloc hbw.size _).grown hg1 (by simp only [World.size_alloc]; have := hbw.size; omega) (fun k hk => (hown.lt k hk).1)
              clear hg1 hown hB hbw hc0 hc1 hf
              go_wp2_with fail
              go_roundw
              case rel => exact ⟨i + o + 1, l ++ [⟨2, ⟨#[]⟩, m⟩], by go_num, hown2, hB1, hbw1, by omega, by simp; omega, E.out⟩
              case measure => simp [intOf]; omega
        by_cases c2 : s[i] = 125
        · have E := Lib.hid (HP.out _ (Par.closes i hlt c2))
          have hc0 := hB.at_ 0 (v := .int .i64 0) rfl
          have hc1 := hB.at_ 1 (v := .int .i64 0) rfl
          have hf := hB.frozen
          have t1 : ((s[i].toNat : Int) == 123) = false := by rw [c2]; rfl
          have t2 : ((s[i].toNat : Int) == 125) = true := by rw [c2]; rfl
          clear c1 c2
          go_wp2_with fail
          refine bodyPost_ret (v := .tuple #[.slice none 0 0, sp 280 i]) ?_ rfl (Or.inr ⟨_, _, Or.inr (Or.inr ⟨h1, H.out, i, E.out, rfl, rfl⟩), rfl, ?_⟩)
          · simp [sp, results, Tryd.results12, go_sem, hc0, hc1]
          · exact (hbw.setCell (by simp) _).setCell (by simp) _
        · have n1 := u8_ne c1
          have n2 := u8_ne c2
          have t1 : ((s[i].toNat : Int) == 123) = false := beq_eq_false_iff_ne.2 (fun e => n1 (by simpa using (by omega : s[i].toNat = 123)))
          have t2 : ((s[i].toNat : Int) == 125) = false := beq_eq_false_iff_ne.2 (fun e => n2 (by simpa using (by omega : s[i].toNat = 125)))
          have C := Lib.hid (show ¬ brace s[i] from fun e => e.elim c1 c2)
          clear c1 c2 n1 n2
          go_wp2_with fail
          obtain ⟨wo, rfl⟩ : ∃ wo : World, wo = wr := ⟨_, rfl⟩
          go_loop [8] (fun u => ∃ k : Nat, u = .int .i64 k ∧ i ≤ k ∧ k ≤ s.size ∧ (∀ m (hm : m < s.size), i ≤ m → m < k → ¬ brace s[m])) (fun u => s.size - (intOf u).toNat)
          case atStart => exact ⟨i, rfl, by omega, by omega, fun m hm h1 h2 => by omega⟩
          case round =>
            obtain ⟨k, rfl, hk1, hk2, hno⟩ := hrel
            have HK := Lib.hid hno
            clear hno
            by_cases hk : k < s.size
            · by_cases d1 : s[k] = 123
              · have b1 : brace s[k] := Or.inl d1
                have hik : i < k := by
                  rcases Nat.lt_or_ge i k with g | g
                  · exact g
                  · obtain rfl : i = k := by omega
                    exact absurd b1 C.out
                have G := Lib.hid (fun _ : k < s.size => b1)
                have t3 : ((s[k].toNat : Int) != 123) = false := by rw [d1]; rfl
                clear d1 b1
                have E := Lib.hid (par_text HP.out hlt hik hk2 HK.out G.out)
                clear HK
                go_wp2_with (first | (at_builtin; refine wpPiece rfl (.tmp 45) (.tmp 51) rfl w.heap.size wo u5 l ⟨1, s.extract i k, 0⟩ rfl hown rfl hl9 hbw.size ?_; intro v1 w1 hown2 hg1))
                have hB1 := (hB.alloc (.cells #[.int .i64 1, .string (s.extract i k), .int .i64 0] 31)).grown hg1 (fun e => own_blk_ne hown hB (by decide) e.symm)
                have hbw1 := (hbw.alloc hbw.size _).grown hg1 (by simp only [World.size_alloc]; have := hbw.size; omega) (fun k hk => (hown.lt k hk).1)
                clear hg1 hown hB hbw
                go_wp2_with fail
                go_roundw
                case rel => exact ⟨k, l ++ [⟨1, s.extract i k, 0⟩], rfl, hown2, hB1, hbw1, by omega, by simp; omega, E.out⟩
                case measure => simp [intOf]; omega
              by_cases d2 : s[k] = 125
              · have b1 : brace s[k] := Or.inr d2
                have hik : i < k := by
                  rcases Nat.lt_or_ge i k with g | g
                  · exact g
                  · obtain rfl : i = k := by omega
                    exact absurd b1 C.out
                have G := Lib.hid (fun _ : k < s.size => b1)
                have t3 : ((s[k].toNat : Int) != 123) = true := by rw [d2]; rfl
                have t4 : ((s[k].toNat : Int) != 125) = false := by rw [d2]; rfl
                clear d1 d2 b1
                have E := Lib.hid (par_text HP.out hlt hik hk2 HK.out G.out)
                clear HK
                go_wp2_with (first | (at_builtin; refine wpPiece rfl (.tmp 45) (.tmp 51) rfl w.heap.size wo u5 l ⟨1, s.extract i k, 0⟩ rfl hown rfl hl9 hbw.size ?_; intro v1 w1 hown2 hg1))
                have hB1 := (hB.alloc (.cells #[.int .i64 1, .string (s.extract i k), .int .i64 0] 31)).grown hg1 (fun e => own_blk_ne hown hB (by decide) e.symm)
                have hbw1 := (hbw.alloc hbw.size _).grown hg1 (by simp only [World.size_alloc]; have := hbw.size; omega) (fun k hk => (hown.lt k hk).1)
                clear hg1 hown hB hbw
                go_wp2_with fail
                go_roundw
                case rel => exact ⟨k, l ++ [⟨1, s.extract i k, 0⟩], rfl, hown2, hB1, hbw1, by omega, by simp; omega, E.out⟩
                case measure => simp [intOf]; omega
              · have n1 := u8_ne d1
                have n2 := u8_ne d2
                have t3 : ((s[k].toNat : Int) != 123) = true := by simp only [bne_iff_ne]; intro e; exact n1 (by simpa using (by omega : s[k].toNat = 123))
                have t4 : ((s[k].toNat : Int) != 125) = true := by simp only [bne_iff_ne]; intro e; exact n2 (by simpa using (by omega : s[k].toNat = 125))
                have C2 := Lib.hid (show ¬ brace s[k] from fun e => e.elim d1 d2)
                clear d1 d2 n1 n2
                go_wp2_with fail
                go_round
                case rel => exact ⟨k + 1, by go_num, by omega, by omega, fun m hm h1 h2 => by
                  rcases Nat.lt_or_ge m k with g | g
                  · exact HK.out m hm h1 g
                  · obtain rfl : m = k := by omega
                    exact C2.out⟩
                case measure => simp [intOf]; omega
            · have hik : i < k := by omega
              have G := Lib.hid (fun g : k < s.size => (absurd g hk : brace s[k]))
              have E := Lib.hid (par_text HP.out hlt hik hk2 HK.out G.out)
              clear HK
              go_wp2_with (first | (at_builtin; refine wpPiece rfl (.tmp 45) (.tmp 51) rfl w.heap.size wo u5 l ⟨1, s.extract i k, 0⟩ rfl hown rfl hl9 hbw.size ?_; intro v1 w1 hown2 hg1))
              have hB1 := (hB.alloc (.cells #[.int .i64 1, .string (s.extract i k), .int .i64 0] 31)).grown hg1 (fun e => own_blk_ne hown hB (by decide) e.symm)
              have hbw1 := (hbw.alloc hbw.size _).grown hg1 (by simp only [World.size_alloc]; have := hbw.size; omega) (fun k hk => (hown.lt k hk).1)
              clear hg1 hown hB hbw
              go_wp2_with fail
              go_roundw
              case rel => exact ⟨k, l ++ [⟨1, s.extract i k, 0⟩], rfl, hown2, hB1, hbw1, by omega, by simp; omega, E.out⟩
              case measure => simp [intOf]; omega
      · have E := Lib.hid (par_end HP.out hlt)
        have hc0 := hB.at_ 0 (v := .int .i64 0) rfl
        have hc1 := hB.at_ 1 (v := .int .i64 0) rfl
        have hf := hB.frozen
        go_wp2_with fail
        refine bodyPost_ret (v := .tuple #[u5, sp 0 0]) ?_ rfl (Or.inl ⟨l, u5, ⟨h1, H.out, E.out⟩, rfl, ?_, ?_⟩)
        · simp [sp, results, Tryd.results12, go_sem, hc0, hc1]
        · refine own_far (own_far hown ?_ _) ?_ _
          · exact own_blk_ne hown hB (by decide)
          · exact own_blk_ne hown hB (by decide)
        · exact (hbw.setCell (by simp) _).setCell (by simp) _
end Go.Proofs.YtbgcngkofbelmaaDoor
