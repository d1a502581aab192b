/-
  The layer does something: wakes answers yes. Condition: the two listed error variables are laid.
-/
import Derived.Test.YtbgcngkofbelmaaDoorQ
namespace Go.Proofs.YtbgcngkofbelmaaDoor
open Go.RowKit
open Ph
def s1 : ByteArray := ⟨#[123, 49, 125, 32, 123, 48, 125]⟩
def s2 : ByteArray := ⟨#[120, 123, 48, 125]⟩
def s3 : ByteArray := ⟨#[123, 48, 125]⟩
def l1 : List Pc := [⟨2, ⟨#[]⟩, 1⟩, ⟨1, ⟨#[32]⟩, 0⟩, ⟨2, ⟨#[]⟩, 0⟩]
def l2 : List Pc := [⟨1, ⟨#[120]⟩, 0⟩, ⟨2, ⟨#[]⟩, 0⟩]
def l3 : List Pc := [⟨2, ⟨#[]⟩, 0⟩]
theorem fine1 : Fine s1 l1 := by
  refine ⟨by decide, by kernel_rfl, ?_⟩
  have h3 : Par s1 7 (.ok []) := Par.fin 7 (by decide)
  have h2 : Par s1 4 (.ok [⟨2, ⟨#[]⟩, 0⟩]) := Par.opens 4 6 0 _ (by decide) (by decide) (by decide) (by decide) (by decide) (by decide +kernel) (by kernel_rfl) h3
  have h1 : Par s1 3 (.ok [⟨1, ⟨#[32]⟩, 0⟩, ⟨2, ⟨#[]⟩, 0⟩]) := Par.text 3 4 _ (by decide) (by decide) (by decide) (by unfold brace; decide +kernel) (fun _ => Or.inl (by kernel_rfl)) h2
  exact Par.opens 0 2 1 _ (by decide) (by decide) (by decide) (by decide) (by decide) (by decide +kernel) (by kernel_rfl) h1
theorem fine2 : Fine s2 l2 := by
  refine ⟨by decide, by kernel_rfl, ?_⟩
  have h3 : Par s2 4 (.ok []) := Par.fin 4 (by decide)
  have h2 : Par s2 1 (.ok [⟨2, ⟨#[]⟩, 0⟩]) := Par.opens 1 3 0 _ (by decide) (by decide) (by decide) (by decide) (by decide) (by decide +kernel) (by kernel_rfl) h3
  exact Par.text 0 1 _ (by decide) (by decide) (by decide) (by unfold brace; decide +kernel) (fun _ => Or.inl (by kernel_rfl)) h2
theorem fine3 : Fine s3 l3 := by
  refine ⟨by decide, by kernel_rfl, ?_⟩
  have h3 : Par s3 3 (.ok []) := Par.fin 3 (by decide)
  exact Par.opens 0 2 0 _ (by decide) (by decide) (by decide) (by decide) (by decide) (by decide +kernel) (by kernel_rfl) h3
theorem tells1 : TellsAll l1 := by
  have e : ∀ s : ByteArray, s.size = 0 → Tells s := fun s h => tells_ascii (by omega) (fun j b hb => by
    have : s.data.toList = [] := List.eq_nil_of_length_eq_zero (by simpa using h)
    rw [this] at hb; cases hb)
  intro p hp
  simp only [l1, List.mem_cons, List.not_mem_nil, or_false] at hp
  rcases hp with rfl | rfl | rfl
  · exact ⟨fun _ => e _ rfl, by decide⟩
  · refine ⟨fun _ => tells_ascii (by decide) (fun j b hb => ?_), by decide⟩
    match j, hb with
    | 0, hb => simp at hb; subst hb; decide
    | j + 1, hb => simp at hb
  · exact ⟨fun _ => e _ rfl, by decide⟩
theorem lay1 : layR [⟨#[97]⟩, ⟨#[98]⟩] l1 = .tuple #[.string ⟨#[98, 32, 97]⟩, .int .i64 0] := by kernel_rfl
theorem once1 : onceB l3 1 = true := by kernel_rfl
theorem texts1 (w : World) (t : TypeId) (a b : ByteArray) : Texts (w.alloc (.cells #[.string a, .string b] t)) (w.heap.size + 1) (some ⟨w.heap.size, 0, none⟩) [a, b] := fun _ => by
  refine ⟨_, rfl, by simp, fun j hj => ?_⟩
  have hc := (Blk.new w t #[.string a, .string b]).cell j
  have he : (⟨w.heap.size, 0, none⟩ : Addr).add j = ⟨w.heap.size, j, none⟩ := by
    unfold Addr.add; split
    · rename_i h; rw [h]
    · simp
  rw [he, hc]
  match j, hj with
  | 0, _ => rfl
  | 1, _ => rfl
set_option maxRecDepth 100000 in
set_option maxHeartbeats 4000000 in
theorem wakes_yes (w : World) (hg : Glob w) : Calls Tryd.prog 11 #[] w fun e w' => e = .returned (.bool true) ∧ Below w.heap.size w w' := by
  have hg1 := hg.below ((Below.refl w.heap.size w).alloc (Nat.le_refl _) (.cells #[.string ⟨#[97]⟩, .string ⟨#[98]⟩] 9)) hg.size
  have hb0 := (Below.refl w.heap.size w).alloc (Nat.le_refl _) (.cells #[.string ⟨#[97]⟩, .string ⟨#[98]⟩] 9)
  have HF := fill_fine (s := s1) (some ⟨w.heap.size, 0, none⟩) [⟨#[97]⟩, ⟨#[98]⟩] 2 _ (by decide) fine1 tells1 (by decide) (by intro x hx; simp at hx; rcases hx with rfl | rfl <;> decide) _ hg1 (texts1 w 9 ⟨#[97]⟩ ⟨#[98]⟩) (by simp)
  rw [lay1] at HF
  unfold s1 at HF
  have hb0s := hb0.size
  go_enter Tryd.func11, Tryd.ntmps11
  go_wp2_with (go_at_call 17; refine HF.mono ?_; rintro e w1 ⟨rfl, hb1⟩)
  have hb2 := hb0.trans (hb1.mono hb0s)
  have HP := FineP.calls (parse_fine (s := s2) (by decide) fine2 w1 (hg.below hb2 hg.size))
  unfold s2 l2 at HP
  refine HP.mono ?_
  rintro e w2 ⟨A, c, rfl, ho, hL, hb3⟩
  have hb4 := hb2.trans (hb3.mono hb2.size)
  have hb5 := hb4.alloc hb4.size (.cells #[.int .i64 0, .int .i64 0] 26)
  have hL2 := hL.alloc (Nat.le_refl _) (.cells #[.int .i64 0, .int .i64 0] 26)
  obtain ⟨ad, rfl, b0, c0, c1, c2⟩ := hL2.pc (i := 1) (by decide)
  have d0 : (w2.alloc (.cells #[.int .i64 0, .int .i64 0] 26)).cell? ⟨ad.block, ad.off + 3, none⟩ = some (.int .i64 2) := c0
  clear c0 c1 c2 hL hL2
  have HO := once_fine (s := s3) (by decide) fine3 1 _ (hg.below hb5 hg.size)
  rw [once1] at HO
  unfold s3 at HO
  go_wp2_with (go_at_call 16; refine HO.mono ?_; rintro e w3 ⟨rfl, hb6⟩)
  refine bodyPost_ret (v := .bool true) ?_ rfl ⟨rfl, hb5.trans (hb6.mono hb5.size)⟩
  simp [results, Tryd.results11, go_sem]
end Go.Proofs.YtbgcngkofbelmaaDoor
