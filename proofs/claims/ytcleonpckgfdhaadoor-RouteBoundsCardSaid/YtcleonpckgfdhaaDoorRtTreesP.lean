/-
  RouteTrees in plain Lean: realms gathered with those above them, links between those that are joined; a box of three slices.
-/
import Derived.Test.YtcleonpckgfdhaaDoorRtKnown
set_option linter.unusedVariables false
set_option linter.unusedSimpArgs false
set_option maxRecDepth 100000
namespace Go.Proofs.YtcleonpckgfdhaaDoor
open Go Go.RowKit Go.Lib Go.Shelf

def Pend (R : List Str) (r : Str) : Prop := (∀ p ∈ R, isR p = true) ∧ (∀ p ∈ R, upOf p ≠ [] → upOf p ∈ R ∨ upOf p = r) ∧ R.Nodup
def labN (r : Str) : Nat := (labelsOf r).1.length
theorem labN_le (r : Str) : labN r ≤ 4 := labels_len r
theorem Pend.nil (r : Str) : Pend [] r := ⟨fun p h => (by cases h), fun p h => (by cases h), List.nodup_nil⟩
theorem Pend.of {R : List Str} (h : Pend R []) (r : Str) : Pend R r := ⟨h.1, fun p hp hu => by
  rcases h.2.1 p hp hu with h1 | h1
  · exact .inl h1
  · exact absurd h1 hu, h.2.2⟩
theorem Pend.isin {R : List Str} {r : Str} (h : Pend R r) (hr : r ∈ R) : Pend R (upOf r) := ⟨h.1, fun p hp hu => by
  rcases h.2.1 p hp hu with h1 | h1
  · exact .inl h1
  · exact .inl (h1 ▸ hr), h.2.2⟩
theorem Pend.new {R : List Str} {r : Str} (h : Pend R r) (hr : r ∉ R) (hi : isR r = true) : Pend (R ++ [r]) (upOf r) := by
  refine ⟨fun p hp => ?_, fun p hp hu => ?_, ?_⟩
  · rcases List.mem_append.1 hp with h1 | h1
    · exact h.1 p h1
    · rw [List.mem_singleton.1 h1]; exact hi
  · rcases List.mem_append.1 hp with h1 | h1
    · rcases h.2.1 p h1 hu with h2 | h2
      · exact .inl (List.mem_append_left _ h2)
      · exact .inl (List.mem_append_right _ (by rw [h2]; simp))
    · rw [List.mem_singleton.1 h1]; exact .inr rfl
  · rw [List.nodup_append]
    refine ⟨h.2.2, by simp, fun y hy z hz e => ?_⟩
    rw [List.mem_singleton.1 hz] at e
    exact hr (e ▸ hy)
theorem Pend.closed {R : List Str} (h : Pend R []) : Closed R := ⟨h.1, fun r hr hu => by
  rcases h.2.1 r hr hu with h1 | h1
  · exact h1
  · exact absurd h1 hu⟩

theorem up_less {r : Str} (h : isR r = true) : (upOf r = [] ∨ isR (upOf r) = true) ∧ labN (upOf r) + 1 = labN r := by
  have hk := isR_of h
  obtain ⟨hg, hr, _⟩ := good_of_kind hk
  have e : upOf r = realmOf ((labelsOf r).1.take ((labelsOf r).1.length - 1)) (kindOf r) := by
    unfold upOf
    rw [if_neg hk, List.dropLast_eq_take]
  have hpos : 1 ≤ (labelsOf r).1.length := List.length_pos_iff.2 hg.ne
  unfold labN
  by_cases h1 : (labelsOf r).1.length = 1
  · have e2 : upOf r = [] := by
      rw [e, h1]
      unfold realmOf
      simp
    rw [e2]
    refine ⟨.inl rfl, ?_⟩
    have : (labelsOf []).1.length = 0 := by decide +kernel
    omega
  · have hg2 := hg.take (j := (labelsOf r).1.length - 1) (by omega)
    rw [e]
    refine ⟨.inr (isR_good hg2), ?_⟩
    rw [labels_realm hg2]
    simp
    omega
theorem isR_ne {r : Str} (h : isR r = true) : r ≠ [] := by
  intro e
  rw [e] at h
  exact absurd h (by decide +kernel)

def LinkInv (R : List Str) (L : List Link) (i k : Nat) : Prop := ∀ p q, (p, q) ∈ L ↔ ∃ i' k', i' < R.length ∧ k' < R.length ∧ (i' < i ∨ (i' = i ∧ k' < k)) ∧ R[i']! = p ∧ R[k']! = q ∧ joined p q = true
theorem LinkInv.nil (R : List Str) : LinkInv R [] 0 0 := fun p q => ⟨fun h => (by cases h), fun ⟨i, k, _, _, h, _⟩ => by omega⟩
theorem LinkInv.no {R : List Str} {L : List Link} {i k : Nat} (h : LinkInv R L i k) (hj : joined R[i]! R[k]! = false) : LinkInv R L i (k + 1) := fun p q => by
  rw [h p q]
  constructor
  · rintro ⟨i', k', h1, h2, h3, h4⟩
    exact ⟨i', k', h1, h2, by omega, h4⟩
  · rintro ⟨i', k', h1, h2, h3, h4, h5, h6⟩
    refine ⟨i', k', h1, h2, ?_, h4, h5, h6⟩
    by_cases e : i' = i ∧ k' = k
    · obtain ⟨rfl, rfl⟩ := e
      rw [h4, h5, h6] at hj
      cases hj
    · omega
theorem LinkInv.yes {R : List Str} {L : List Link} {i k : Nat} (h : LinkInv R L i k) (hi : i < R.length) (hk : k < R.length) (hj : joined R[i]! R[k]! = true) : LinkInv R (L ++ [(R[i]!, R[k]!)]) i (k + 1) := fun p q => by
  rw [List.mem_append, h p q, List.mem_singleton, Prod.mk.injEq]
  constructor
  · rintro (⟨i', k', h1, h2, h3, h4⟩ | ⟨rfl, rfl⟩)
    · exact ⟨i', k', h1, h2, by omega, h4⟩
    · exact ⟨i, k, hi, hk, by omega, rfl, rfl, hj⟩
  · rintro ⟨i', k', h1, h2, h3, h4, h5, h6⟩
    by_cases e : i' = i ∧ k' = k
    · obtain ⟨rfl, rfl⟩ := e
      exact .inr ⟨h4.symm, h5.symm⟩
    · exact .inl ⟨i', k', h1, h2, by omega, h4, h5, h6⟩
theorem LinkInv.row {R : List Str} {L : List Link} {i : Nat} (h : LinkInv R L i R.length) : LinkInv R L (i + 1) 0 := fun p q => by
  rw [h p q]
  constructor <;> rintro ⟨i', k', h1, h2, h3, h4⟩ <;> exact ⟨i', k', h1, h2, by omega, h4⟩
theorem LinkInv.done {R : List Str} {L : List Link} (h : LinkInv R L R.length 0) (p q : Str) : linkedOf ⟨R, L, []⟩ p q = true ↔ p ∈ R ∧ q ∈ R ∧ joined p q = true := by
  unfold linkedOf
  rw [decide_eq_true_iff, h p q]
  constructor
  · rintro ⟨i', k', h1, h2, h3, rfl, rfl, h6⟩
    exact ⟨by rw [getElem!_pos R i' h1]; exact List.getElem_mem _, by rw [getElem!_pos R k' h2]; exact List.getElem_mem _, h6⟩
  · rintro ⟨h1, h2, h3⟩
    obtain ⟨i, hi, e1⟩ := List.getElem_of_mem h1
    obtain ⟨k, hk, e2⟩ := List.getElem_of_mem h2
    exact ⟨i, k, hi, hk, by omega, by rw [getElem!_pos R i hi]; exact e1, by rw [getElem!_pos R k hk]; exact e2, h3⟩
/-- 'i != k' for 'p != q': no realm stands twice. -/
theorem joined_at {R : List Str} (hn : R.Nodup) {i k : Nat} (hi : i < R.length) (hk : k < R.length) : joined R[i]! R[k]! = (decide (upOf R[i]! = R[k]!) || decide (upOf R[k]! = R[i]!) || (decide (i ≠ k) && (decide (upOf R[i]! = []) && decide (upOf R[k]! = [])))) := by
  unfold joined
  have : decide (R[i]! ≠ R[k]!) = decide (i ≠ k) := by
    rw [Bool.eq_iff_iff, decide_eq_true_iff, decide_eq_true_iff, getElem!_pos R i hi, getElem!_pos R k hk]
    constructor
    · intro h e
      subst e
      exact h rfl
    · intro h e
      exact h ((List.getElem_inj hn).1 e)
  rw [this]

/-! ### the box -/
def BoxAt (W : World) (bx : Nat) (r l p : Value) : Prop := W.cell? ⟨bx, 0, none⟩ = some r ∧ W.cell? ⟨bx, 1, none⟩ = some l ∧ W.cell? ⟨bx, 2, none⟩ = some p ∧ ∀ k, W.frozen? ⟨bx, k, none⟩ = false
theorem frozen_new (w : World) (cs : Array Value) (t : TypeId) (k : Nat) : (w.alloc (.cells cs t)).frozen? ⟨w.heap.size, k, none⟩ = false := by
  have := heap_alloc_new w (.cells cs t)
  simp only [World.frozen?, this]
  simp
theorem frozen_old {w : World} {bx : Nat} {i : Nat} {r : Value} (h : w.cell? ⟨bx, i, none⟩ = some r) (o : Obj) (k : Nat) : (w.alloc o).frozen? ⟨bx, k, none⟩ = w.frozen? ⟨bx, k, none⟩ := by
  have hlt : bx < w.heap.size := World.block_lt_of_cell? w ⟨bx, i, none⟩ h
  exact World.frozen?_of_block (a := ⟨bx, k, none⟩) (by rw [World.alloc]; simp [Array.getElem?_push, Nat.ne_of_lt hlt])
theorem BoxAt.below {W W' : World} {bx n : Nat} {r l p : Value} (h : BoxAt W bx r l p) (hb : Below n W W') (hn : bx < n) : BoxAt W' bx r l p :=
  ⟨(hb.cell (p := ⟨bx, 0, none⟩) hn).trans h.1, (hb.cell (p := ⟨bx, 1, none⟩) hn).trans h.2.1, (hb.cell (p := ⟨bx, 2, none⟩) hn).trans h.2.2.1, fun k => (hb.frozen (p := ⟨bx, k, none⟩) hn).trans (h.2.2.2 k)⟩
theorem BoxAt.alloc {W : World} {bx : Nat} {r l p : Value} (h : BoxAt W bx r l p) (o : Obj) : BoxAt (W.alloc o) bx r l p := ⟨cell_old o h.1, cell_old o h.2.1, cell_old o h.2.2.1, fun k => (frozen_old h.1 o k).trans (h.2.2.2 k)⟩
theorem BoxAt.set0 {W : World} {bx : Nat} {r l p : Value} (h : BoxAt W bx r l p) (v : Value) : BoxAt (W.setCell ⟨bx, 0, none⟩ v) bx v l p :=
  ⟨World.cell?_setCell_same' _ _ _ (by rw [h.1]; rfl), (World.cell?_setCell_other _ _ _ _ (by simp)).trans h.2.1, (World.cell?_setCell_other _ _ _ _ (by simp)).trans h.2.2.1, fun k => (World.frozen?_setCell _ _ _ _).trans (h.2.2.2 k)⟩
theorem BoxAt.set1 {W : World} {bx : Nat} {r l p : Value} (h : BoxAt W bx r l p) (v : Value) : BoxAt (W.setCell ⟨bx, 1, none⟩ v) bx r v p :=
  ⟨(World.cell?_setCell_other _ _ _ _ (by simp)).trans h.1, World.cell?_setCell_same' _ _ _ (by rw [h.2.1]; rfl), (World.cell?_setCell_other _ _ _ _ (by simp)).trans h.2.2.1, fun k => (World.frozen?_setCell _ _ _ _).trans (h.2.2.2 k)⟩
/-- All that stood stands, but the box. -/
structure Off (bx : Nat) (wa W : World) : Prop where
  size : wa.heap.size ≤ W.heap.size
  block : ∀ k, k < wa.heap.size → k ≠ bx → W.heap[k]? = wa.heap[k]?
theorem Off.refl (bx : Nat) (w : World) : Off bx w w := ⟨Nat.le_refl _, fun _ _ _ => rfl⟩
theorem Off.below {bx n : Nat} {wa W W' : World} (h : Off bx wa W) (hb : Below n W W') (hn : wa.heap.size ≤ n) : Off bx wa W' :=
  ⟨Nat.le_trans h.size hb.size, fun k hk hne => (hb.block k (by omega)).trans (h.block k hk hne)⟩
theorem Off.set {bx : Nat} {wa W : World} (h : Off bx wa W) (i : Nat) (v : Value) : Off bx wa (W.setCell ⟨bx, i, none⟩ v) :=
  ⟨Nat.le_trans h.size ((Below.refl bx W).setCell (p := ⟨bx, i, none⟩) (Nat.le_refl _) v).size, fun k hk hne => (heap_setCell_other _ _ _ _ hne).trans (h.block k hk hne)⟩
theorem Off.own {bx : Nat} {wa W : World} (h : Off bx wa W) {t : TypeId} {s n : Nat} {v : Value} {xs : List Value} (ho : wa.ownsRow (bx + 1) t s v n xs) : W.ownsRow (bx + 1) t s v n xs := by
  refine ⟨ho.1, ?_⟩
  rcases ho.2 with h1 | ⟨g, cap, cur, h1, h2, h3, h4⟩
  · exact .inl h1
  · exact .inr ⟨g, cap, cur, h1, h2, (h.block g (Array.getElem?_eq_some_iff.1 h3).1 (by omega)).trans h3, h4⟩
end Go.Proofs.YtcleonpckgfdhaaDoor
