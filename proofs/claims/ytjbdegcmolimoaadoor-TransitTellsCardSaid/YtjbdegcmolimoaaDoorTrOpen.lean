/-
  A row of texts that came in, as data; what the bound on its bulk gives.
-/
import Derived.Test.YtjbdegcmolimoaaDoorBase
import Derived.Test.YtjbdegcmolimoaaDoorTrLib
import Derived.SliceStrings
import Derived.ProofKit
set_option linter.unusedVariables false
set_option linter.unusedSimpArgs false
namespace Go.Proofs.YtjbdegcmolimoaaDoor
open Go Go.RowKit Go.ChangeShapes Go.WideShapes Go.ChangeAt Go.ChangeMaps

theorem laidOut : laidOutB Tryd.prog = true := by kernel_rfl
theorem cells_str : Tryd.prog.cellsOf 9 = 1 := by kernel_rfl

section
variable {H : Type} {enc : TypeId × Value → H} {w : World} {base : Nat} {spare : Nat → Bool} {held : Bool}

theorem upto_strs (ss : List ByteArray) : Rows.uptoBulkAll (ChangeShapes.strs ss : List (DataW H)) = bulk (ss.map fun s => s.data.toList) := by
  induction ss with
  | nil => rfl
  | cons s ss ih =>
    have e : ChangeShapes.strs (s :: ss) = (.lit (.string s.data.toList) : DataW H) :: ChangeShapes.strs ss := rfl
    rw [e]
    simp only [Rows.uptoBulkAll, Rows.uptoBulk, ih, bulk, List.map_cons, List.sum_cons]
    omega

set_option maxRecDepth 100000 in
theorem open_texts {r : Reach} {b0 : Nat} {v : Value} {d : DataW H} {p : List MemPlace} (hv : Value.okWide Tryd.prog w r b0 24 v) (h : DataW.Trod enc Tryd.prog w base spare held 24 v d p) (hw : ∀ q ∈ DataW.weights Tryd.prog 24 d, q ≤ reachBytes) :
    ∃ ad n c l, v = .slice ad n c ∧ At w ad n l ∧ n ≤ c ∧ (∀ x ∈ l, x.length ≤ 140737488351232) ∧ bulk l ≤ Rows.uptoBulk d := by
  obtain ⟨ad, n, c, rfl⟩ := okWide_slice Tryd.underlying24 hv
  obtain ⟨fuel, hf⟩ := h
  rcases open_strings Tryd.underlying24 Tryd.underlying9 cells_str hf with ⟨hcs, hx⟩ | ⟨a, len, cap, ss, hcs, _, hl, hm, hz, hx, hcell, hsz⟩
  · simp only [Value.cells, List.cons.injEq, Value.slice.injEq, and_true] at hcs
    obtain ⟨rfl, rfl, rfl⟩ := hcs
    exact ⟨none, 0, 0, [], rfl, At.nil _ _, Nat.le_refl _, by simp, by simp [bulk]⟩
  · simp only [Value.cells, List.cons.injEq, Value.slice.injEq, and_true] at hcs
    obtain ⟨rfl, rfl, rfl⟩ := hcs
    have hlen : n ≤ ss.length := by rw [hz]; split <;> omega
    refine ⟨some a, n, c, (ss.take n).map fun s => s.data.toList, rfl, ⟨by simp; omega, fun hn => ?_⟩, hl, ?_, ?_⟩
    · obtain ⟨b, off, spot⟩ := a
      have h00 := hcell 0 (by omega)
      have hspot : spot = none := by simpa [Addr.add] using World.cell?_spot h00
      subst hspot
      refine ⟨b, off, rfl, ?_, fun j hj => ?_⟩
      · have := World.block_lt_of_cell? w _ h00
        simpa [Addr.add] using this
      · have hc := hcell j (by omega)
        rw [Go.WideShapes.add_plain] at hc
        rw [hc, getElem!_pos _ j (by simp; omega)]
        simp only [List.getElem_map, List.getElem_take]
        rw [List.getD_eq_getElem?_getD, List.getElem?_eq_getElem (by omega)]
        rfl
    · intro x hx'
      simp only [List.mem_map] at hx'
      obtain ⟨s, hs, rfl⟩ := hx'
      have hd : d = .slice (ChangeShapes.strs (ss.take n)) (ChangeShapes.strs (ss.drop n)) := by simp only [Prod.mk.injEq] at hx; exact hx.1
      have hin : ∀ L : List ByteArray, s ∈ L → s.data.toList.length ∈ DataW.weightsAll Tryd.prog 9 (ChangeShapes.strs L : List (DataW H)) := fun L => by
        induction L with
        | nil => intro h; simp at h
        | cons y L ih =>
          intro h
          have e : ChangeShapes.strs (y :: L) = (.lit (.string y.data.toList) : DataW H) :: ChangeShapes.strs L := rfl
          rw [e]
          simp only [DataW.weightsAll, List.mem_append]
          rcases List.mem_cons.1 h with rfl | h
          · exact .inl (by simp [DataW.weights])
          · exact .inr (ih h)
      have := hw s.data.toList.length (by rw [hd]; simp only [DataW.weights, Tryd.underlying24, List.mem_cons, List.mem_append]; exact .inr (.inl (hin _ hs)))
      simp only [reachBytes] at this
      exact this
    · simp only [Prod.mk.injEq] at hx
      rw [hx.1]
      simp only [Rows.uptoBulk]
      rw [upto_strs]
      omega

theorem upto_part {d : DataW H} {l : List (DataW H)} (h : d ∈ l) : Rows.uptoBulk d ≤ Rows.uptoBulkAll l := by
  induction l with
  | nil => cases h
  | cons x r ih =>
    simp only [Rows.uptoBulkAll]
    cases List.mem_cons.1 h with
    | inl e => subst e; omega
    | inr e => have := ih e; omega
theorem upto_bound {l : List (DataW H)} (hk : Rows.uptoSmall H l = true) : Rows.uptoBulkAll l ≤ 1048576 := of_decide_eq_true hk
theorem upto_text {s : Str} {l : List (DataW H)} (h : (.lit (.string s) : DataW H) ∈ l) (hk : Rows.uptoSmall H l = true) : s.length < 1048576 := by
  have h1 := upto_part h
  have h2 := upto_bound hk
  simp only [Rows.uptoBulk] at h1
  omega
theorem weights_of {ts : List TypeId} {ds : List (DataW H)} (h : (DataW.weightsEach Tryd.prog ts ds).all (· ≤ reachBytes) = true) {j : Nat} {t : TypeId} {d : DataW H} (ht : ts[j]? = some t) (hd : ds[j]? = some d) : ∀ q ∈ DataW.weights Tryd.prog t d, q ≤ reachBytes := fun q hq => by
  have := List.all_eq_true.1 h q (DataW.weights_mem_each ht hd q hq)
  simpa using this
end
end Go.Proofs.YtjbdegcmolimoaaDoor
