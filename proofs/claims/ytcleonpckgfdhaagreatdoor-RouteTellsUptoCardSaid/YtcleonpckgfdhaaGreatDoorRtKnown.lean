/-
  legatelaw7.known.
-/
import Derived.Test.YtcleonpckgfdhaaGreatDoorRtPick
set_option linter.unusedVariables false
set_option linter.unusedSimpArgs false
set_option maxRecDepth 100000
namespace Go.Proofs.YtcleonpckgfdhaaGreatDoor
open Go Go.RowKit Go.Lib Go.Shelf

abbrev kA : Str := [65, 46, 69, 68, 85]
abbrev kE : Str := [69, 68, 85]
abbrev kB : Str := [66, 46, 69, 68, 85]
def kT : Topo := ⟨[kA, kE, kB], [(kA, kE), (kE, kB)], []⟩
theorem kT_walk : walkOf kT kA kB = some [kE] := by decide +kernel
theorem kT_ok : topoOk kT := by decide +kernel
theorem kT_short : Short kT := ⟨by decide, fun p hp => by cases hp⟩

theorem at_block {w : World} {k : Nat} {l : List Str} {t : TypeId} (h : w.heap[k]? = some (.cells (strs l).toArray t (0, 0))) : At w (some ⟨k, 0, none⟩) l.length l := by
  refine ⟨rfl, fun h0 => ⟨k, 0, rfl, (Array.getElem?_eq_some_iff.1 h).1, fun j hj => ?_⟩⟩
  rw [Nat.zero_add, cell_of_row w k j _ _ _ h, getElem!_pos l j hj]
  simp [strs, strv, hj]
theorem links_block {w : World} {k : Nat} {L : List Link} {t : TypeId} (h : w.heap[k]? = some (.cells (lnks L).toArray t (0, 0))) : LinksAt w (some ⟨k, 0, none⟩) L.length L := by
  refine ⟨rfl, fun h0 => ⟨k, 0, rfl, (Array.getElem?_eq_some_iff.1 h).1, fun j hj => ⟨?_, ?_⟩⟩⟩
  · rw [Nat.zero_add, cell_of_row w k _ _ _ _ h, List.getElem?_toArray, show j * 2 = j * 2 + 0 from rfl, lnks_get L j 0 hj (by omega)]
    rfl
  · rw [Nat.zero_add, cell_of_row w k _ _ _ _ h, List.getElem?_toArray, lnks_get L j 1 hj (by omega)]
    rfl
theorem WaysAt.nil (w : World) (ad : Option Addr) : WaysAt w ad 0 [] := ⟨rfl, fun h => absurd h (Nat.lt_irrefl 0)⟩
theorem LinksAt.nil (w : World) (ad : Option Addr) : LinksAt w ad 0 [] := ⟨rfl, fun h => absurd h (Nat.lt_irrefl 0)⟩

set_option maxHeartbeats 2000000 in
theorem known_any (w : World) (hg : Glob w) : Calls Tryz.prog 18 #[] w fun e w' => e = .returned (.bool true) ∧ Below w.heap.size w w' := by
  obtain ⟨w3, hw3⟩ : ∃ w3, w3 = ((w.alloc (.cells #[.string ⟨#[65, 46, 69, 68, 85]⟩, .string ⟨#[69, 68, 85]⟩, .string ⟨#[66, 46, 69, 68, 85]⟩] 9)).alloc (.cells #[.string ⟨#[65, 46, 69, 68, 85]⟩, .string ⟨#[69, 68, 85]⟩, .string ⟨#[69, 68, 85]⟩, .string ⟨#[66, 46, 69, 68, 85]⟩] 39)).alloc (.cells #[.slice (some ⟨w.heap.size, 0, none⟩) 3 3, .slice (some ⟨w.heap.size + 1, 0, none⟩) 2 2, .slice none 0 0] 26) := ⟨_, rfl⟩
  have acc : Below w.heap.size w w3 := by rw [hw3]; exact ((((Below.refl _ _).alloc (Nat.le_refl _) _).alloc (by simp) _).alloc (by simp; omega) _)
  have hz : w3.heap.size = w.heap.size + 3 := by rw [hw3]; simp
  have b1 : w3.heap[w.heap.size]? = some (.cells (strs [kA, kE, kB]).toArray 9 (0, 0)) := by rw [hw3]; exact (heap_alloc_old _ _ (by simp; omega)).trans ((heap_alloc_old _ _ (by simp)).trans (heap_alloc_new _ _))
  have b2 : w3.heap[w.heap.size + 1]? = some (.cells (lnks [(kA, kE), (kE, kB)]).toArray 39 (0, 0)) := by
    rw [hw3]
    refine (heap_alloc_old _ _ (by simp)).trans ?_
    have := heap_alloc_new (w.alloc (.cells #[.string ⟨#[65, 46, 69, 68, 85]⟩, .string ⟨#[69, 68, 85]⟩, .string ⟨#[66, 46, 69, 68, 85]⟩] 9)) (.cells #[.string ⟨#[65, 46, 69, 68, 85]⟩, .string ⟨#[69, 68, 85]⟩, .string ⟨#[69, 68, 85]⟩, .string ⟨#[66, 46, 69, 68, 85]⟩] 39)
    rw [World.size_alloc] at this
    exact this
  have k0 : ∀ (i : Nat) x, (#[Value.slice (some ⟨w.heap.size, 0, none⟩) 3 3, .slice (some ⟨w.heap.size + 1, 0, none⟩) 2 2, .slice none 0 0] : Array Value)[i]? = some x → w3.cell? ⟨w.heap.size + 2, i, none⟩ = some x := fun i x h => by rw [hw3]; exact cell_new (by simp) _ _ h
  have hT : Tt w3 ⟨some ⟨w.heap.size, 0, none⟩, 3, 3, some ⟨w.heap.size + 1, 0, none⟩, 2, 2, none, 0, 0⟩ kT := ⟨at_block b1, links_block b2, WaysAt.nil _ _, Nat.le_refl _, Nat.le_refl _, Nat.le_refl _⟩
  have hW := walk_any w3 _ kT ⟨#[65, 46, 69, 68, 85]⟩ ⟨#[66, 46, 69, 68, 85]⟩ hT kT_short (by dsimp only; omega) (hg.below acc) (by decide) (by decide)
  rw [show walkOf kT (⟨#[65, 46, 69, 68, 85]⟩ : ByteArray).data.toList (⟨#[66, 46, 69, 68, 85]⟩ : ByteArray).data.toList = some [kE] from kT_walk] at hW
  unfold WalkPost at hW
  dsimp only [List.length_cons, List.length_nil, Nat.zero_add] at hW
  have keep : ∀ W, Below w3.heap.size w3 W → W.cell? ⟨w.heap.size + 2, 0, none⟩ = some (.slice (some ⟨w.heap.size, 0, none⟩) 3 3) ∧ W.cell? ⟨w.heap.size + 2, 1, none⟩ = some (.slice (some ⟨w.heap.size + 1, 0, none⟩) 2 2) ∧ W.cell? ⟨w.heap.size + 2, 2, none⟩ = some (.slice none 0 0) := fun W h =>
    ⟨(h.cell (p := ⟨w.heap.size + 2, 0, none⟩) (by show w.heap.size + 2 < _; omega)).trans (k0 0 _ rfl), (h.cell (p := ⟨w.heap.size + 2, 1, none⟩) (by show w.heap.size + 2 < _; omega)).trans (k0 1 _ rfl), (h.cell (p := ⟨w.heap.size + 2, 2, none⟩) (by show w.heap.size + 2 < _; omega)).trans (k0 2 _ rfl)⟩
  have hI := fun W (h : Below w3.heap.size w3 W) => is7_any W ⟨some ⟨w.heap.size, 0, none⟩, 3, 3, some ⟨w.heap.size + 1, 0, none⟩, 2, 2, none, 0, 0⟩ kT (hT.below h) ((hg.below acc).below h) (fun r hr => by simp only [kT, List.mem_cons, List.not_mem_nil, or_false] at hr; rcases hr with rfl | rfl | rfl <;> decide) (by dsimp only; omega) (by dsimp only; omega) (by dsimp only; omega)
  have KEEP := Lib.hid keep
  have ACC := Lib.hid acc
  have HI := Lib.hid hI
  have HW3 := Lib.hid hw3
  have HDEC := Lib.hid (decide_eq_true kT_ok)
  rw [hw3] at hW
  clear hT hw3 acc hz b1 b2 k0 keep hI hg
  go_enter Tryz.func18, Tryz.ntmps18
  go_wp2_with (first
    | (go_at_call 9; refine hW.mono ?_; rintro e w4 ⟨ad, c, rfl, hA, hb4⟩; rw [← HW3.out] at hb4; obtain ⟨a0, a1, a2⟩ := KEEP.out w4 hb4)
    | (go_at_call 31; refine (HI.out w4 hb4).mono ?_; rintro e w5 ⟨rfl, hb5⟩; rw [HDEC.out])
    | (go_at_call 13; refine (texts_any _ _ _ _ _ _ _ [kE] [kE] ((hA.below hb5).below ((Below.refl _ _).alloc (Nat.le_refl _) _)) (at_block (l := [kE]) (heap_alloc_new _ _)) (by simp) (by simp)).mono ?_; rintro e w6 ⟨rfl, hb6⟩; rw [decide_eq_true (rfl : [kE] = [kE])]))
  go_ret
  exact ⟨rfl, ACC.out.trans ((hb4.trans ((hb5.trans ((((Below.refl _ _).alloc (Nat.le_refl _) _).trans (hb6.mono (by simp))).mono hb5.size)).mono hb4.size)).mono ACC.out.size)⟩

/-! ### what a law's bound gives -/
theorem bulk_realms {T : Topo} {n : Nat} (h : bulkT T ≤ n) : T.realms.length ≤ n ∧ ∀ r ∈ T.realms, r.length < n := by
  have h1 : sumBy sizeS T.realms ≤ n := by unfold bulkT at h; omega
  refine ⟨Nat.le_trans (sumBy_len sizeS (fun x => by unfold sizeS; omega) _) h1, fun r hr => ?_⟩
  have := sumBy_mem sizeS hr
  unfold sizeS at this h1
  omega
theorem bulk_links {T : Topo} {n : Nat} (h : bulkT T ≤ n) : T.links.length ≤ n := by
  have h1 : sumBy sizeL T.links ≤ n := by unfold bulkT at h; omega
  exact Nat.le_trans (sumBy_len sizeL (fun x => by unfold sizeL; omega) _) h1
theorem bulk_short {T : Topo} {n : Nat} (h : bulkT T ≤ n) (hn : n ≤ 89999) : Short T ∧ T.paths.length ≤ n := by
  have h1 : sumBy sizeP T.paths ≤ n := by unfold bulkT at h; omega
  have h2 := Nat.le_trans (sumBy_len sizeP (fun x => by unfold sizeP; omega) T.paths) h1
  refine ⟨⟨by omega, fun p hp => ?_⟩, h2⟩
  have h3 := sumBy_mem sizeP hp
  have h4 : sumBy sizeS p.2 ≤ n := by unfold sizeP at h3 h1; omega
  refine ⟨?_, fun r hr => ?_⟩
  · have := sumBy_len sizeS (fun x => by unfold sizeS; omega) p.2
    omega
  · have := sumBy_mem sizeS hr
    unfold sizeS at this h4
    omega

theorem box_keep {w w1 : World} {c : Array Value} {t : TypeId} (h : w1 = w.alloc (.cells c t)) : (Below w.heap.size w w1) ∧ w1.heap.size = w.heap.size + 1 ∧ ∀ W, Below w1.heap.size w1 W → ∀ (i : Nat) x, c[i]? = some x → W.cell? ⟨w.heap.size, i, none⟩ = some x := by
  subst h
  refine ⟨(Below.refl _ _).alloc (Nat.le_refl _) _, by simp, fun W hW i x hx => ?_⟩
  exact (hW.cell (p := ⟨w.heap.size, i, none⟩) (by show w.heap.size < _; simp)).trans (cell_new rfl _ _ hx)
end Go.Proofs.YtcleonpckgfdhaaGreatDoor
