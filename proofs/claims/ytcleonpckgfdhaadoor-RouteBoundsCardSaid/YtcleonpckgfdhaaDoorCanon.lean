/-
  Rows of bytes that a text was turned into; name.Canon, legateref5.Canon.
-/
import Derived.Test.YtcleonpckgfdhaaDoorSplit
import Derived.Laws.IdiomStrings
set_option linter.unusedVariables false
set_option linter.unusedSimpArgs false
namespace Go.Proofs.YtcleonpckgfdhaaDoor
open Go Go.RowKit Go.Lib Go.Shelf

def bigB (b : UInt8) : UInt8 := if 97 ≤ b.toNat ∧ b.toNat ≤ 122 then b - 32 else b
def canonOf (s : Str) : Str := s.map bigB

/-- Block g holds the bytes l, none of them frozen. -/
def BytesAt (w : World) (g : Nat) (l : Str) : Prop := ∃ cur n, w.heap[g]? = some (.cells cur 5 (n, n + 1)) ∧ n = cur.size ∧ l.length ≤ n ∧ ∀ j (hj : j < l.length), cur[j]? = some (.int .u8 ((l[j]'hj).toNat : Int))

theorem BytesAt.cell {w : World} {g : Nat} {l : Str} (h : BytesAt w g l) {j : Nat} (hj : j < l.length) : w.cell? ⟨g, j, none⟩ = some (.int .u8 ((l[j]'hj).toNat : Int)) := by
  obtain ⟨cur, n, h1, h2, h3, h4⟩ := h
  have : w.cell? ⟨g, j, none⟩ = cur[j]? := by simp [World.cell?, h1]
  rw [this, h4 j hj]
theorem BytesAt.frozen {w : World} {g : Nat} {l : Str} (h : BytesAt w g l) {j : Nat} (hj : j < l.length) : w.frozen? ⟨g, j, none⟩ = false := by
  obtain ⟨cur, n, h1, h2, h3, h4⟩ := h
  simp only [World.frozen?, h1]
  simp
  omega
theorem BytesAt.set {w : World} {g : Nat} {l : Str} (h : BytesAt w g l) {i : Nat} (hi : i < l.length) (b : UInt8) : BytesAt (w.setCell ⟨g, i, none⟩ (.int .u8 (b.toNat : Int))) g (l.set i b) := by
  obtain ⟨cur, n, h1, h2, h3, h4⟩ := h
  refine ⟨cur.setIfInBounds i (.int .u8 (b.toNat : Int)), n, ?_, by simp [h2], by simpa using h3, ?_⟩
  · rw [Sort.setCell_eq]
    simp [Sort.mapBlock, Array.getElem?_modify, h1, Sort.onCells]
  · intro j hj
    have hj' : j < l.length := by simpa using hj
    rw [Array.getElem?_setIfInBounds]
    by_cases e : i = j
    · subst e
      rw [if_pos rfl, if_pos (by omega)]
      simp
    · rw [if_neg e, h4 j hj']
      simp [List.getElem_set_ne e]
theorem BytesAt.below {w w' : World} {g : Nat} {l : Str} (h : BytesAt w g l) (hb : Below w.heap.size w w') : BytesAt w' g l := by
  obtain ⟨cur, n, h1, h2⟩ := h
  have hlt : g < w.heap.size := (Array.getElem?_eq_some_iff.1 h1).1
  exact ⟨cur, n, (hb.block g hlt).trans h1, h2⟩
theorem BytesAt.drew {w : World} {g : Nat} {l : Str} (h : BytesAt w g l) (q : Nat) : BytesAt (w.drewN q) g l := h

theorem run_back {w : World} {g : Nat} {l : Str} (h : BytesAt w g l) (cap n : Nat) (hn : n = l.length) : (convert 45 9 (.slice (some ⟨g, 0, none⟩) n cap)).run Tryd.prog w = .ok (.string ⟨l.toArray⟩) w := by
  subst hn
  refine run_convert_bytes_back w 45 9 5 ⟨g, 0, none⟩ cap l Tryd.underlying45 Tryd.underlying5 Tryd.underlying9 (fun j hj => ?_)
  have hadd : (⟨g, 0, none⟩ : Addr).add j = ⟨g, j, none⟩ := by unfold Addr.add; split <;> simp_all
  rw [hadd]
  exact h.cell hj

theorem wpList_bytes {ops : Array Oper} {rest : List Oper} {o : Oper} {a : Act} {Q : Exit → Act → World → Prop} (w : World) (hgd : o.guard = none) (x : Operand) (ho : o.op = .convert 9 45 x) (s : ByteArray) (hx : a.eval x = .string s)
    (h : ∀ cap w', BytesAt w' w.heap.size s.data.toList → Below w.heap.size w w' → w.heap.size < w'.heap.size → wpList Tryd.prog ops Q rest (a.put o.dst (.slice (some ⟨w.heap.size, 0, none⟩) s.size cap)) w') : wpList Tryd.prog ops Q (o :: rest) a w := by
  refine wpList_plain hgd fun K' hK' => ?_
  have hrun := run_bytes_of_string (P := Tryd.prog) w 9 45 5 s Tryd.underlying9 Tryd.underlying45 Tryd.underlying5
  unfold Oper.wp
  simp only [execOp, ho, hx, hrun, Sem.run_bind, Sem.run_pure, Result.andThen_ok]
  refine hK' _ _ (h _ _ ?_ ?_ ?_)
  · refine ⟨_, _, heap_alloc_new w.drew _, rfl, ?_, fun j hj => ?_⟩
    · have e : s.data.toList.length = s.size := rfl
      rw [e]
      unfold bytesRow
      rw [Array.size_append, Array.size_map]
      have e2 : s.data.size = s.size := rfl
      omega
    · have hj' : j < s.data.size := hj
      rw [bytesRow_at s _ j hj']
      rfl
  · exact ((Below.refl _ w).drew).alloc (Nat.le_refl _) _
  · show w.heap.size < (w.heap.push _).size
    rw [Array.size_push]
    omega

end Go.Proofs.YtcleonpckgfdhaaDoor
