/-
  How a row of acts reads as data; the laws' 'long'.
-/
import Derived.Test.YtjikekfjhfcdpaaOpen
import Derived.Test.YtjikekfjhfcdpaaRef
import Derived.Deep.Slices
set_option linter.unusedVariables false
set_option linter.unusedSimpArgs false
namespace Go.Proofs.Ytjikekfjhfcdpaa
open Go Go.RowKit Go.ChangeShapes Go.WideShapes Go.ChangeAt Go.ChangeMaps Go.Deep Go.Joins

/-- An act. -/
structure Act1 where
  kind : Int
  a : Au
  by_ : Int
instance : Inhabited Act1 := ⟨⟨0, default, 0⟩⟩

def encAct (x : Act1) : List Value := [.int .i64 x.kind, .string x.a.realm, .string x.a.name, .int .i64 x.a.time, .int .i64 x.a.seq, .int .i64 x.by_]
def datAct {H : Type} (x : Act1) : DataW H := .agg [.lit (.int .i64 x.kind), dat x.a, .lit (.int .i64 x.by_)]

/-- An act whose texts and numbers fit. -/
structure ActFits (x : Act1) : Prop where
  kind : (Lit.int .i64 x.kind).wf = true
  by_ : (Lit.int .i64 x.by_).wf = true
  fits : Fits x.a
  realm : x.a.realm.size ≤ 140737488351232
  name : x.a.name.size ≤ 140737488351232

/-- A slice of acts, as the world holds it. -/
structure ReadsActs (w : World) (ad : Option Addr) (n c : Nat) (l : List Act1) : Prop where
  len : l.length = n
  cap : n ≤ c
  big : n ≤ 140737488351232
  fits : ∀ x ∈ l, ActFits x
  cell : 0 < n → ∃ b off, ad = some ⟨b, off, none⟩ ∧ b < w.heap.size ∧ ∀ j, j < n → ∀ k, k < 6 → w.cell? ⟨b, off + j * 6 + k, none⟩ = (encAct l[j]!)[k]?

section
variable {H : Type} {enc' : TypeId × Value → H} {w : World} {base : Nat} {spare : Nat → Bool} {held : Bool}

theorem trod_act {fuel : Nat} {cs : List Value} {x : DataW H × List MemPlace} (h : DataW.trod enc' Try.prog w base spare held fuel 39 cs = some x) : ∃ a : Act1, cs = encAct a ∧ x.1 = datAct a ∧ (Lit.int .i64 a.kind).wf = true ∧ (Lit.int .i64 a.by_).wf = true ∧ Fits a.a := by
  obtain ⟨y0, y1, y2, n, hx, hl, h0, h1, h2⟩ := trod_struct3 Try.underlying39 h
  rw [Try.cells39] at hl
  match cs, hl with
  | [c0, c1, c2, c3, c4, c5], _ =>
    simp only [Try.cells29, Try.cells3, List.drop_zero, List.drop_succ_cons, List.take_succ_cons, List.take_zero] at h0 h1 h2
    obtain ⟨n0, e0, q0, w0⟩ := DataW.trod_int Try.underlying3 h0
    obtain ⟨a, e1, q1, w1⟩ := trod_au h1
    obtain ⟨n2, e2, q2, w2⟩ := DataW.trod_int Try.underlying3 h2
    simp only [enc, List.cons.injEq, and_true] at e0 e1 e2
    obtain ⟨rfl, rfl, rfl, rfl⟩ := e1
    subst e0 e2
    exact ⟨⟨n0, a, n2⟩, rfl, by rw [hx, q0, q1, q2]; rfl, w0, w2, w1⟩

theorem open_acts {r : Reach} {b0 : Nat} {v : Value} {d : DataW H} {p : List MemPlace} {ts : List TypeId} {ds : List (DataW H)} (hsz : (DataW.weightsEach Try.prog ts ds).all (· ≤ reachBytes) = true) {j : Nat} (ht : ts[j]? = some 34) (hd : ds[j]? = some d)
    (hv : Value.okWide Try.prog w r b0 34 v) (h : DataW.Trod enc' Try.prog w base spare held 34 v d p) : ∃ ad n c l, v = .slice ad n c ∧ ReadsActs w ad n c l := by
  obtain ⟨ad, n, c, rfl⟩ := okWide_slice Try.underlying34 hv
  obtain ⟨fuel, hf⟩ := h
  rcases open_slice Try.underlying34 hf with ⟨hcs, hx⟩ | ⟨a, len, cap, m, k, D, Pl, hcs, hb, hl, hm, hmm, hx, hel⟩
  · simp [Value.cells] at hcs
    obtain ⟨rfl, rfl, rfl⟩ := hcs
    exact ⟨none, 0, 0, [], rfl, rfl, Nat.le_refl _, by omega, by simp, fun h => absurd h (by omega)⟩
  · simp [Value.cells] at hcs
    obtain ⟨rfl, rfl, rfl⟩ := hcs
    have hnm : n ≤ m := by rw [hmm]; split <;> omega
    -- each element
    have hall : ∀ i, i < n → ∃ x : Act1, w.cells? base (a.add (i * 6)) 6 = some (encAct x) ∧ D i = datAct x ∧ (Lit.int .i64 x.kind).wf = true ∧ (Lit.int .i64 x.by_).wf = true ∧ Fits x.a := fun i hi => by
      obtain ⟨cs', h1, h2⟩ := hel i (by omega)
      obtain ⟨x, e1, e2, e3⟩ := trod_act h2
      rw [Try.cells39, e1] at h1
      exact ⟨x, h1, e2, e3⟩
    obtain ⟨f, hf'⟩ : ∃ f : Nat → Act1, ∀ i, i < n → w.cells? base (a.add (i * 6)) 6 = some (encAct (f i)) ∧ D i = datAct (f i) ∧ (Lit.int .i64 (f i).kind).wf = true ∧ (Lit.int .i64 (f i).by_).wf = true ∧ Fits (f i).a := by
      refine ⟨fun i => if h : i < n then (hall i h).choose else default, fun i hi => ?_⟩
      simp only [dif_pos hi]
      exact (hall i hi).choose_spec
    have hdd : d = .slice ((List.range n).map D) ((List.range (m - n)).map fun j => D (n + j)) := by simp only [Prod.mk.injEq] at hx; exact hx.1
    have hw := sized_slice hsz ht (by rw [hd, hdd]) Try.underlying34
    rw [show Try.prog.bytesOf 39 = 64 by kernel_rfl] at hw
    simp only [List.length_map, List.length_range, reachBytes] at hw
    have hwt : ∀ i, i < n → (f i).a.realm.size ≤ 140737488351232 ∧ (f i).a.name.size ≤ 140737488351232 := fun i hi => by
      have hmem : ∀ q, q ∈ DataW.weights Try.prog 39 (D i) → q ≤ reachBytes := fun q hq => by
        have hin : q ∈ DataW.weightsAll Try.prog 39 ((List.range n).map D) := by
          have : ∀ (L : List Nat), i ∈ L → q ∈ DataW.weightsAll Try.prog 39 (L.map D) := fun L => by
            induction L with
            | nil => intro h; simp at h
            | cons y L ih =>
              intro h
              simp only [List.map_cons, DataW.weightsAll, List.mem_append]
              rcases List.mem_cons.1 h with rfl | h
              · exact .inl hq
              · exact .inr (ih h)
          exact this _ (List.mem_range.2 hi)
        have := List.all_eq_true.1 hsz q (DataW.weights_mem_each ht hd q (by rw [hdd]; simp [DataW.weights, Try.underlying34, hin]))
        simpa using this
      have e : DataW.weights Try.prog 39 (D i) = [(f i).a.realm.data.toList.length, (f i).a.name.data.toList.length] := by
        rw [(hf' i hi).2.1]
        simp [datAct, dat, DataW.weights, DataW.weightsEach, Try.underlying39, Try.underlying29, Try.underlying27]
      have h1 := hmem (f i).a.realm.data.toList.length (by rw [e]; simp)
      have h2 := hmem (f i).a.name.data.toList.length (by rw [e]; simp)
      exact ⟨h1, h2⟩
    refine ⟨some a, n, c, (List.range n).map f, rfl, by simp, by omega, by omega, ?_, fun hn => ?_⟩
    · intro x hx
      simp only [List.mem_map, List.mem_range] at hx
      obtain ⟨i, hi, rfl⟩ := hx
      obtain ⟨_, _, h1, h2, h3⟩ := hf' i hi
      exact ⟨h1, h2, h3, (hwt i hi).1, (hwt i hi).2⟩
    · have hc0 : ∀ i, i < n → ∀ k, k < 6 → w.cell? ((a.add (i * 6)).add k) = (encAct (f i))[k]? := fun i hi k hk => (World.cells?_some (hf' i hi).1).2.2 k hk
      obtain ⟨b, off, spot⟩ := a
      have h00 := hc0 0 hn 0 (by omega)
      have hspot : spot = none := by simpa [Addr.add, encAct] using World.cell?_spot (show w.cell? _ = some _ from h00)
      subst hspot
      refine ⟨b, off, rfl, ?_, fun i hi k hk => ?_⟩
      · have := World.block_lt_of_cell? w _ (show w.cell? _ = some _ from h00)
        simpa [Addr.add] using this
      · have := hc0 i hi k hk
        rw [Go.WideShapes.add_plain, Go.WideShapes.add_plain] at this
        rw [this]
        congr 2
        rw [getElem!_pos _ i (by simpa using hi)]
        simp
end

end Go.Proofs.Ytjikekfjhfcdpaa
