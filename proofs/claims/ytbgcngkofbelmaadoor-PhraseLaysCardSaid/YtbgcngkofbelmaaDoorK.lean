/-
  Contract of Places: the numbers of a phrase's places, or what is wrong. Condition: the text is short enough to be in memory.
-/
import Derived.Test.YtbgcngkofbelmaaDoorJ
namespace Go.Proofs.YtbgcngkofbelmaaDoor
open Go.RowKit
open Ph
def nums (l : List Pc) : List Int := (l.filter (fun p => p.kind == 2)).map (·.place)
def icells (l : List Int) : List Value := l.map (.int .i64)
theorem icells_length (l : List Int) : (icells l).length = l.length := by simp [icells]
theorem nums_le (l : List Pc) : (nums l).length ≤ l.length := by unfold nums; rw [List.length_map]; exact List.length_filter_le _ _
theorem nums_take {l : List Pc} {i : Nat} (h : i < l.length) : nums (l.take (i + 1)) = nums (l.take i) ++ (if l[i].kind = 2 then [l[i].place] else []) := by
  unfold nums
  rw [List.take_succ_eq_append_getElem h, List.filter_append, List.map_append]
  by_cases c : l[i].kind = 2 <;> simp [c]
theorem info3i : (Tryd.prog.info? 3).map (fun i => (i.zero, i.size, i.bytes)) = some (some (.int .i64 0), 1, 8) := by kernel_rfl
theorem reads_new1 (w : World) (a : Value) (t : TypeId) : Reads (w.alloc (.cells #[a] t)) (w.heap.size + 1) 1 (some ⟨w.heap.size, 0, none⟩) 1 [a] := by
  refine ⟨rfl, fun _ => ⟨_, rfl, by simp, ?_⟩⟩
  intro j u hu
  have hc := (Blk.new w t #[a]).cell j
  have he : (⟨w.heap.size, 0, none⟩ : Addr).add j = ⟨w.heap.size, j, none⟩ := by
    unfold Addr.add; split
    · rename_i h; rw [h]
    · simp
  rw [he, hc]; simpa using hu
theorem own_isnoc {w : World} {base : Nat} {v : Value} (l : List Int) (n : Int) (h : w.ownsRow base 3 1 v (l.length + 1) (icells l ++ [.int .i64 n])) : w.ownsRow base 3 1 v (l ++ [n]).length (icells (l ++ [n])) := by
  have e : icells (l ++ [n]) = icells l ++ [.int .i64 n] := by simp [icells]
  rw [e, List.length_append]
  exact h
theorem wpInt {ops : Array Oper} {rest : List Oper} {o : Oper} {a : Act} {Q : Exit → Act → World → Prop} (hgd : o.guard = none) (sI xI : Operand)
    (ho : o.op = .call { callee := .builtin .append, args := #[sI, xI], argTypes := #[32, 32] })
    (base : Nat) (w0 : World) (v : Value) (l : List Int) (n : Int) (hs : a.eval sI = v) (hown : w0.ownsRow base 3 1 v l.length (icells l)) (hx : a.eval xI = .slice (some ⟨w0.heap.size, 0, none⟩) 1 1)
    (hl : l.length ≤ 1000000000000) (hb : base ≤ w0.heap.size)
    (h : ∀ v' w', w'.ownsRow base 3 1 v' (l ++ [n]).length (icells (l ++ [n])) → (w0.alloc (.cells #[.int .i64 n] 3)).grownBy w' v.ownBlock → wpList Tryd.prog ops Q rest (a.put o.dst v') w') :
    wpList Tryd.prog ops Q (o :: rest) a (w0.alloc (.cells #[.int .i64 n] 3)) := by
  obtain ⟨i0, hi0, hz0, hz1, hz2⟩ := info_parts info3i
  refine wpList_append_any _ hgd sI xI 32 ho base 3 i0 _ 1 8 Tryd.underlying32 hi0 hz0 hz1 hz2 rfl (by omega) v l.length (icells l) hs (hown.alloc _) (w0.heap.size + 1) _ 1 1 [.int .i64 n] hx (reads_new1 w0 _ _) ?_ ?_ ?_ ?_ ?_
  · intro u hu; simp at hu; rcases hu with rfl; rfl
  · unfold maxLen; omega
  · omega
  · simp only [World.size_alloc]; omega
  · intro v' w' h1 h2 _
    exact h v' w' (own_isnoc l n h1) h2
theorem Lists.below {w w' : World} {B : Nat} {A : Option Addr} {l : List Pc} (h : Lists w B A l) (hb : Below B w w') : Lists w' B A l := fun hn => by
  obtain ⟨ad, e, hlt, hc⟩ := h hn
  exact ⟨ad, e, hlt, fun j u hu => (hb.cell (p := ad.add j) (by rw [block_of_add]; exact hlt)).trans (hc j u hu)⟩
theorem Lists.alloc {w : World} {B : Nat} {A : Option Addr} {l : List Pc} (h : Lists w B A l) (hB : B ≤ w.heap.size) (o : Obj) : Lists (w.alloc o) B A l := h.below ((Below.refl _ _).alloc hB o)
def NumsP (l : List Pc) (w : World) (e : Ending) (w' : World) : Prop :=
  ∃ v, e = .returned (.tuple #[v, .int .i64 0]) ∧ w'.ownsRow w.heap.size 3 1 v (nums l).length (icells (nums l)) ∧ Below w.heap.size w w'
def NoNums (a : Int) (w : World) (e : Ending) (w' : World) : Prop := e = .returned (.tuple #[.slice none 0 0, .int .i64 a]) ∧ Below w.heap.size w w'
theorem WrongP.calls {f : Nat} {s : ByteArray} {a b : Int} {w : World} (h : Calls Tryd.prog f #[.string s] w (WrongP a b w)) :
    Calls Tryd.prog f #[.string s] w fun e w' => e = .returned (.tuple #[.slice none 0 0, .agg #[.int .i64 a, .int .i64 b]]) ∧ Below w.heap.size w w' := h
theorem FineP.calls {f : Nat} {s : ByteArray} {l : List Pc} {w : World} (h : Calls Tryd.prog f #[.string s] w (FineP l w)) :
    Calls Tryd.prog f #[.string s] w fun e w' => ∃ A c, e = .returned (.tuple #[.slice A l.length c, .agg #[.int .i64 0, .int .i64 0]]) ∧ w'.ownsRow w.heap.size 31 3 (.slice A l.length c) l.length (pcells l) ∧ Lists w' w'.heap.size A l ∧ Below w.heap.size w w' :=
  h.mono fun e w' ⟨v, he, ho, hb⟩ => by
    obtain ⟨A, c, rfl, hl⟩ := Lists.of_own ho
    exact ⟨A, c, he, ho, hl, hb⟩
theorem par_len {s : ByteArray} {i : Nat} {r : Except Nat (List Pc)} (h : Par s i r) (hi : i ≤ s.size) : ∀ l, r = .ok l → l.length ≤ s.size - i := by
  induction h with
  | fin i h => rintro l ⟨⟩; simp
  | opens i j n r h h1 hj hj' h2 h3 hp hr ih =>
    intro l e
    cases r with
    | error k => cases e
    | ok m =>
      simp only [pre, Except.ok.injEq] at e
      subst e
      have := ih (by omega) m rfl
      simp; omega
  | noclose i h h1 h3 => rintro l ⟨⟩
  | badplace i j h h1 hj hj' h2 h3 hp => rintro l ⟨⟩
  | closes i h h1 => rintro l ⟨⟩
  | text i k r h hk hk' h1 h2 hr ih =>
    intro l e
    cases r with
    | error k => cases e
    | ok m =>
      simp only [pre, Except.ok.injEq] at e
      subst e
      have := ih (by omega) m rfl
      simp; omega
theorem Fine.len {s : ByteArray} {l : List Pc} (h : Fine s l) : l.length ≤ 4096 := by
  have := par_len h.2.2 (by omega) l rfl
  have := h.1
  omega
set_option maxRecDepth 100000 in
set_option maxHeartbeats 4000000 in
theorem places_wrong {s : ByteArray} {a b : Int} (hs : s.size ≤ 281474976710656) (hf : Wrong s a b) (w : World) (hg : Glob w) : Calls Tryd.prog 15 #[.string s] w (NoNums a w) := by
  have HP := WrongP.calls (parse_wrong hs hf w hg)
  have hz := hf.nz
  have t1 : (a != 0) = true := by simpa using hz
  clear hf
  go_enter Tryd.func15, Tryd.ntmps15
  go_wp2_with (go_at_call 13; refine HP.mono ?_; rintro e w' ⟨rfl, hb⟩)
  go_quiet (fail)
  go_wp2_with fail
  refine bodyPost_ret (v := .tuple #[.slice none 0 0, .int .i64 a]) ?_ rfl ⟨rfl, ?_⟩
  · simp [results, Tryd.results15, go_sem]
  · exact blw_drewN (hb.alloc hb.size _) _
set_option maxRecDepth 100000 in
set_option maxHeartbeats 4000000 in
theorem places_fine {s : ByteArray} {l : List Pc} (hs : s.size ≤ 281474976710656) (hf : Fine s l) (w : World) (hg : Glob w) : Calls Tryd.prog 15 #[.string s] w (NumsP l w) := by
  have HP := FineP.calls (parse_fine hs hf w hg)
  have hl := hf.len
  clear hf
  go_enter Tryd.func15, Tryd.ntmps15
  go_wp2_with (go_at_call 13; refine HP.mono ?_; rintro e w' ⟨A, c, rfl, ho, hL, hb⟩)
  have hbw := hb
  clear hb ho
  go_loopw [21, 6] (fun u v wr => ∃ i : Nat, u = .int .i64 i ∧ i ≤ l.length ∧ Lists wr w'.heap.size A l ∧ wr.ownsRow w'.heap.size 3 1 v (nums (l.take i)).length (icells (nums (l.take i))) ∧ Below w'.heap.size w' wr) (fun u _ _ => l.length - (intOf u).toNat)
  case atStart => exact ⟨0, rfl, by omega, hL.alloc (Nat.le_refl _) _, ⟨by simp [icells, nums], Or.inl ⟨rfl, rfl⟩⟩, (Below.refl _ _).alloc (Nat.le_refl _) _⟩
  case round =>
    obtain ⟨i, rfl, hi, hL, hown, hb⟩ := hrel
    by_cases hlt : i < l.length
    · obtain ⟨ad, rfl, b0, c0, c1, c2⟩ := hL.pc hlt
      have nl := nums_le (l.take i)
      have nt := nums_take hlt
      have n9 : (nums (l.take i)).length ≤ 1000000000000 := by rw [List.length_take] at nl; omega
      have hown' := hown.alloc (.cells #[.int .i64 l[i].kind, .string l[i].text, .int .i64 l[i].place] 31)
      have hL' := hL.alloc hb.size (.cells #[.int .i64 l[i].kind, .string l[i].text, .int .i64 l[i].place] 31)
      have hb' := hb.alloc hb.size (.cells #[.int .i64 l[i].kind, .string l[i].text, .int .i64 l[i].place] 31)
      clear hown hL hb
      by_cases c : l[i].kind = 2
      · have t1 : (l[i].kind == 2) = true := by simpa using c
        rw [if_pos c] at nt
        clear c
        go_wp2_with (first | (at_builtin; refine wpInt rfl (.tmp 28) (.tmp 31) rfl w'.heap.size (wr.alloc (.cells #[.int .i64 l[i].kind, .string l[i].text, .int .i64 l[i].place] 31)) u6 (nums (l.take i)) l[i].place rfl hown' (by simp [go_sem]) n9 hb'.size ?_; intro v1 w1 hown2 hg1))
        have hb1 := (hb'.alloc hb'.size _).grown hg1 (by simp only [World.size_alloc]; have := hb'.size; simp only [World.size_alloc] at this; omega) (fun k hk => (hown'.lt k hk).1)
        have hL1 := (hL'.alloc hb'.size _).below (Below.grown (Below.refl _ _) hg1 (by simp only [World.size_alloc]; have := hb'.size; simp only [World.size_alloc] at this; omega) (fun k hk => (hown'.lt k hk).1))
        clear hg1 hown' hb' hL'
        go_wp2_with fail
        go_roundw
        case rel => exact ⟨i + 1, by go_num, by omega, hL1, by rw [nt]; exact hown2, hb1⟩
        case measure => simp [intOf]; omega
      · have t1 : (l[i].kind == 2) = false := by simpa using c
        rw [if_neg c, List.append_nil] at nt
        clear c
        go_wp2_with fail
        go_roundw
        case rel => exact ⟨i + 1, by go_num, by omega, hL', by rw [nt]; exact hown', hb'⟩
        case measure => simp [intOf]; omega
    · have hi2 : i = l.length := by omega
      subst hi2
      rw [List.take_length] at hown
      go_wp2_with fail
      refine bodyPost_ret (v := .tuple #[u6, .int .i64 0]) ?_ rfl ⟨u6, rfl, own_base hown hbw.size, hbw.trans (hb.mono hbw.size)⟩
      simp [results, Tryd.results15, go_sem]
end Go.Proofs.YtbgcngkofbelmaaDoor
