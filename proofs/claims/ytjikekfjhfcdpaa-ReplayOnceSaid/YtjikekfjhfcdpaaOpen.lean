/-
  How authenticators and acts read as data.
-/
import Derived.Test.YtjikekfjhfcdpaaPlain
import Derived.Test.YtjikekfjhfcdpaaProg
import Derived.Lib.SmallJoins
import Derived.Deep.Strs
import Derived.ProofKit
import Derived.KernelRfl
import Derived.SizedLaws
set_option linter.unusedVariables false
set_option linter.unusedSimpArgs false
namespace Go.Proofs.Ytjikekfjhfcdpaa
open Go Go.RowKit Go.ChangeShapes Go.WideShapes Go.ChangeAt Go.ChangeMaps Go.Deep Go.Joins

theorem Try.cells9 : Try.prog.cellsOf 9 = 1 := by kernel_rfl
theorem Try.cells3 : Try.prog.cellsOf 3 = 1 := by kernel_rfl
theorem Try.cells27 : Try.prog.cellsOf 27 = 2 := by kernel_rfl
theorem Try.cells29 : Try.prog.cellsOf 29 = 4 := by kernel_rfl
theorem Try.cells39 : Try.prog.cellsOf 39 = 6 := by kernel_rfl

/-- An authenticator whose numbers are int's. -/
structure Fits (a : Au) : Prop where
  time : (Lit.int .i64 a.time).wf = true
  seq : (Lit.int .i64 a.seq).wf = true

/-- Its datum. -/
def dat {H : Type} (a : Au) : DataW H := .agg [.agg [.lit (.string a.realm.data.toList), .lit (.string a.name.data.toList)], .lit (.int .i64 a.time), .lit (.int .i64 a.seq)]

section
variable {H : Type} {enc' : TypeId × Value → H} {w : World} {base : Nat} {spare : Nat → Bool} {held : Bool}

theorem trod_au {fuel : Nat} {cs : List Value} {x : DataW H × List MemPlace} (h : DataW.trod enc' Try.prog w base spare held fuel 29 cs = some x) : ∃ a : Au, cs = enc a ∧ x.1 = dat a ∧ Fits a := by
  obtain ⟨y0, y1, y2, n, hx, hl, h0, h1, h2⟩ := trod_struct3 Try.underlying29 h
  rw [Try.cells29] at hl
  match cs, hl with
  | [c0, c1, c2, c3], _ =>
    simp only [Try.cells27, Try.cells3, List.drop_zero, List.drop_succ_cons, List.take_succ_cons, List.take_zero] at h0 h1 h2
    obtain ⟨z0, z1, m, hz, _, k0, k1⟩ := trod_struct2 Try.underlying27 h0
    simp only [Try.cells9, List.drop_zero, List.drop_succ_cons, List.take_succ_cons, List.take_zero] at k0 k1
    obtain ⟨s0, e0, q0, _⟩ := DataW.trod_string Try.underlying9 k0
    obtain ⟨s1, e1, q1, _⟩ := DataW.trod_string Try.underlying9 k1
    obtain ⟨n0, e2, q2, w0⟩ := DataW.trod_int Try.underlying3 h1
    obtain ⟨n1, e3, q3, w1⟩ := DataW.trod_int Try.underlying3 h2
    simp only [List.cons.injEq, and_true] at e0 e1 e2 e3
    subst e0 e1 e2 e3
    exact ⟨⟨s0, s1, n0, n1⟩, rfl, by rw [hx, hz, q0, q1, q2, q3]; rfl, w0, w1⟩

theorem open_au {r : Reach} {b0 : Nat} {v : Value} {d : DataW H} {p : List MemPlace} (hv : Value.okWide Try.prog w r b0 29 v) (h : DataW.Trod enc' Try.prog w base spare held 29 v d p) : ∃ a : Au, v = .agg (enc a).toArray ∧ d = dat a ∧ Fits a := by
  obtain ⟨cs, rfl, hsz⟩ := okWide_struct Try.underlying29 hv
  obtain ⟨fuel, hf⟩ := h
  obtain ⟨a, ha, hd, hfit⟩ := trod_au hf
  refine ⟨a, ?_, hd, hfit⟩
  simp only [Value.cells] at ha
  rw [← ha]

theorem sized_au {ts : List TypeId} {ds : List (DataW H)} (h : (DataW.weightsEach Try.prog ts ds).all (· ≤ reachBytes) = true) {j : Nat} {a : Au} (ht : ts[j]? = some 29) (hd : ds[j]? = some (dat a)) : a.realm.size ≤ 140737488351232 ∧ a.name.size ≤ 140737488351232 := by
  have e : DataW.weights Try.prog 29 (dat a : DataW H) = [a.realm.data.toList.length, a.name.data.toList.length] := by
    simp [dat, DataW.weights, DataW.weightsEach, Try.underlying29, Try.underlying27]
  have h1 := List.all_eq_true.1 h _ (DataW.weights_mem_each ht hd a.realm.data.toList.length (by rw [e]; simp))
  have h2 := List.all_eq_true.1 h _ (DataW.weights_mem_each ht hd a.name.data.toList.length (by rw [e]; simp))
  simp only [reachBytes, decide_eq_true_eq, Array.length_toList] at h1 h2
  exact ⟨of_decide_eq_true h1, of_decide_eq_true h2⟩
end

end Go.Proofs.Ytjikekfjhfcdpaa
