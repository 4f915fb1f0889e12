/-
  A topology that came in, as data; what the bound on its bulk gives.
-/
import Derived.Test.YtcleonpckgfdhaaGreatDoorBase
import Derived.Test.YtcleonpckgfdhaaGreatDoorRtBig
import Derived.SliceStrings
import Derived.ProofKit
import Derived.Carry
import Derived.Deep.Slices
import Derived.Deep.Strs
import Derived.Lib.SmallJoins
set_option linter.unusedVariables false
set_option linter.unusedSimpArgs false
set_option maxRecDepth 100000
namespace Go.Proofs.YtcleonpckgfdhaaGreatDoor
open Go Go.RowKit Go.ChangeShapes Go.WideShapes Go.ChangeAt Go.ChangeMaps Go.Joins Go.Deep

theorem laidOut : laidOutB Tryz.prog = true := by kernel_rfl
theorem cells_str : Tryz.prog.cellsOf 9 = 1 := by kernel_rfl
theorem cells_strs : Tryz.prog.cellsOf 22 = 1 := by kernel_rfl
theorem cells_link : Tryz.prog.cellsOf 39 = 2 := by kernel_rfl
theorem cells_way : Tryz.prog.cellsOf 41 = 3 := by kernel_rfl
theorem cells_topo : Tryz.prog.cellsOf 26 = 3 := by kernel_rfl

section
variable {H : Type} {enc : TypeId × Value → H} {w : World} {base : Nat} {spare : Nat → Bool} {held : Bool}

theorem upto_strs (ss : List ByteArray) : Rows.uptoBulkAll (ChangeShapes.strs ss : List (DataW H)) = sumBy sizeS (ss.map fun s => s.data.toList) := by
  induction ss with
  | nil => rfl
  | cons s ss ih =>
    have e : ChangeShapes.strs (s :: ss) = (.lit (.string s.data.toList) : DataW H) :: ChangeShapes.strs ss := rfl
    rw [e]
    simp only [Rows.uptoBulkAll, Rows.uptoBulk, ih, sumBy, sizeS, List.map_cons, List.sum_cons]
    omega
theorem upto_range (D : Nat → DataW H) (f : Nat → Nat) (n : Nat) (h : ∀ i, i < n → f i ≤ Rows.uptoBulk (D i)) : ((List.range n).map f).sum ≤ Rows.uptoBulkAll ((List.range n).map D) := by
  have app : ∀ (l m : List (DataW H)), Rows.uptoBulkAll (l ++ m) = Rows.uptoBulkAll l + Rows.uptoBulkAll m := fun l m => by
    induction l with
    | nil => simp [Rows.uptoBulkAll]
    | cons x r ih => simp only [List.cons_append, Rows.uptoBulkAll, ih]; omega
  induction n with
  | zero => simp
  | succ n ih =>
    have := ih (fun i hi => h i (by omega))
    have := h n (by omega)
    rw [List.range_succ, List.map_append, List.map_append, List.sum_append, app]
    simp only [List.map_cons, List.map_nil, List.sum_cons, List.sum_nil, Rows.uptoBulkAll]
    omega

theorem at_of_cell {ad : Addr} {v : Value} (h : w.cell? ad = some v) : ∃ b off, ad = ⟨b, off, none⟩ ∧ b < w.heap.size := by
  obtain ⟨b, off, spot⟩ := ad
  have hs := World.cell?_spot h
  simp only at hs
  subst hs
  exact ⟨b, off, rfl, World.block_lt_of_cell? w _ h⟩

/-- A row of texts, out of its reading. -/
theorem open_strs {fuel : Nat} {v : Value} {x : DataW H × List MemPlace} (h : DataW.trod enc Tryz.prog w base spare held fuel 22 [v] = some x) :
    ∃ ad n c l, v = .slice ad n c ∧ At w ad n l ∧ n ≤ c ∧ sumBy sizeS l ≤ Rows.uptoBulk x.1 ∧ (∀ s ∈ l, s.length ≤ maxLen) := by
  rcases open_strings Tryz.underlying22 Tryz.underlying9 cells_str h with ⟨hcs, hx⟩ | ⟨a, len, cap, ss, hcs, _, hl, hm, hz, hx, hcell, hsz⟩
  · simp only [List.cons.injEq, and_true] at hcs
    subst hcs
    exact ⟨none, 0, 0, [], rfl, At.nil _ _, Nat.le_refl _, by simp [sumBy], by simp⟩
  · simp only [List.cons.injEq, and_true] at hcs
    subst hcs
    have hlen : len ≤ ss.length := by rw [hz]; split <;> omega
    refine ⟨some a, len, cap, (ss.take len).map fun s => s.data.toList, rfl, ⟨by simp; omega, fun hn => ?_⟩, hl, ?_, ?_⟩
    · have h00 := hcell 0 (by omega)
      obtain ⟨b, off, spot⟩ := a
      have hspot : spot = none := by simpa [Addr.add] using World.cell?_spot h00
      subst hspot
      refine ⟨b, off, rfl, ?_, fun j hj => ?_⟩
      · have := World.block_lt_of_cell? w _ h00
        simpa [Addr.add] using this
      · have hc := hcell j (by omega)
        rw [Go.WideShapes.add_plain] at hc
        rw [hc, getElem!_pos _ j (by simp; omega)]
        simp only [List.getElem_map, List.getElem_take]
        rw [List.getD_eq_getElem?_getD, List.getElem?_eq_getElem (by omega)]
        rfl
    · rw [hx]
      simp only [Rows.uptoBulk]
      rw [upto_strs]
      omega
    · intro x hx'
      simp only [List.mem_map] at hx'
      obtain ⟨s, hs, rfl⟩ := hx'
      exact hsz s (List.mem_of_mem_take hs)

def strOf : DataW H → Str
  | .lit (.string s) => s
  | _ => []
def linkOf : DataW H → Link
  | .agg [a, b] => (strOf a, strOf b)
  | _ => ([], [])

theorem open_links {fuel : Nat} {v : Value} {x : DataW H × List MemPlace} (h : DataW.trod enc Tryz.prog w base spare held fuel 23 [v] = some x) :
    ∃ ad n c L, v = .slice ad n c ∧ LinksAt w ad n L ∧ n ≤ c ∧ sumBy sizeL L ≤ Rows.uptoBulk x.1 := by
  rcases open_slice Tryz.underlying23 h with ⟨hcs, hx⟩ | ⟨a, len, cap, m, k, D, Pl, hcs, _, hl, hm, hmm, hx, hel⟩
  · simp only [List.cons.injEq, and_true] at hcs
    subst hcs
    exact ⟨none, 0, 0, [], rfl, ⟨rfl, fun h => absurd h (Nat.lt_irrefl 0)⟩, Nat.le_refl _, by simp [sumBy]⟩
  · simp only [List.cons.injEq, and_true] at hcs
    subst hcs
    have hlm : len ≤ m := by rw [hmm]; split <;> omega
    rw [cells_link] at hel
    have one : ∀ i, i < len → w.cell? (a.add (i * 2)) = some (.string ⟨(linkOf (D i)).1.toArray⟩) ∧ w.cell? ((a.add (i * 2)).add 1) = some (.string ⟨(linkOf (D i)).2.toArray⟩) ∧ sizeL (linkOf (D i)) ≤ Rows.uptoBulk (D i) := fun i hi => by
      obtain ⟨cs', h1, h2⟩ := hel i (by omega)
      obtain ⟨_, hl2, hc2⟩ := World.cells?_some h1
      obtain ⟨xs, m', _, e, _, hxl, hxe⟩ := DataW.trod_array Tryz.underlying39 h2
      rw [cells_str] at hxe
      match cs', hl2 with
      | [u0, u1], _ =>
        match xs, hxl with
        | [y0, y1], _ =>
          have e0 := hxe 0 (by omega)
          have e1 := hxe 1 (by omega)
          simp only [Nat.zero_mul, List.drop_zero, List.take_succ_cons, List.take_zero, Nat.one_mul, List.drop_succ_cons, List.getElem?_cons_zero, List.getElem?_cons_succ] at e0 e1
          obtain ⟨s0, f0, g0, _⟩ := DataW.trod_string Tryz.underlying9 e0
          obtain ⟨s1, f1, g1, _⟩ := DataW.trod_string Tryz.underlying9 e1
          simp only [List.cons.injEq, and_true] at f0 f1
          subst f0 f1 g0 g1
          simp only [Prod.mk.injEq] at e
          have hD : D i = .agg [.lit (.string s0.data.toList), .lit (.string s1.data.toList)] := e.1
          rw [hD]
          have c0 := hc2 0 (by omega)
          have c1 := hc2 1 (by omega)
          have ea : (a.add (i * 2)).add 0 = a.add (i * 2) := by simp [Addr.add]
          rw [ea] at c0
          refine ⟨c0, c1, ?_⟩
          simp only [linkOf, strOf, sizeL, Rows.uptoBulk, Rows.uptoBulkAll]
          omega
    refine ⟨some a, len, cap, (List.range len).map fun i => linkOf (D i), rfl, ⟨by simp, fun hn => ?_⟩, hl, ?_⟩
    · have h00 := (one 0 (by omega)).1
      obtain ⟨b, off, spot⟩ := a
      have hspot : spot = none := by simpa [Addr.add] using World.cell?_spot h00
      subst hspot
      refine ⟨b, off, rfl, ?_, fun j hj => ?_⟩
      · have := World.block_lt_of_cell? w _ h00
        simpa [Addr.add] using this
      · obtain ⟨k0, k1, _⟩ := one j hj
        rw [Go.WideShapes.add_plain] at k0 k1
        rw [Go.WideShapes.add_plain] at k1
        rw [getElem!_pos _ j (by simpa using hj)]
        simp only [List.getElem_map, List.getElem_range]
        exact ⟨k0, k1⟩
    · rw [hx]
      simp only [Rows.uptoBulk]
      have := upto_range D (fun i => sizeL (linkOf (D i))) len (fun i hi => (one i hi).2.2)
      unfold sumBy
      rw [List.map_map]
      exact Nat.le_trans this (by omega)

theorem open_ways {fuel : Nat} {v : Value} {x : DataW H × List MemPlace} (h : DataW.trod enc Tryz.prog w base spare held fuel 24 [v] = some x) :
    ∃ ad n c P, v = .slice ad n c ∧ WaysAt w ad n P ∧ n ≤ c ∧ sumBy sizeP P ≤ Rows.uptoBulk x.1 := by
  rcases open_slice Tryz.underlying24 h with ⟨hcs, hx⟩ | ⟨a, len, cap, m, k, D, Pl, hcs, _, hl, hm, hmm, hx, hel⟩
  · simp only [List.cons.injEq, and_true] at hcs
    subst hcs
    exact ⟨none, 0, 0, [], rfl, ⟨rfl, fun h => absurd h (Nat.lt_irrefl 0)⟩, Nat.le_refl _, by simp [sumBy]⟩
  · simp only [List.cons.injEq, and_true] at hcs
    subst hcs
    have hlm : len ≤ m := by rw [hmm]; split <;> omega
    rw [cells_way] at hel
    have one : ∀ i, i < len → ∃ p : Way, w.cell? (a.add (i * 3)) = some (.string ⟨p.1.1.toArray⟩) ∧ w.cell? ((a.add (i * 3)).add 1) = some (.string ⟨p.1.2.toArray⟩) ∧ (∃ av nv cv, w.cell? ((a.add (i * 3)).add 2) = some (.slice av nv cv) ∧ At w av nv p.2 ∧ nv ≤ cv) ∧ sizeP p ≤ Rows.uptoBulk (D i) := fun i hi => by
      obtain ⟨cs', h1, h2⟩ := hel i (by omega)
      obtain ⟨_, hl2, hc2⟩ := World.cells?_some h1
      obtain ⟨y0, y1, y2, m', e, _, e0, e1, e2⟩ := trod_struct3 Tryz.underlying41 h2
      rw [cells_str] at e0 e1
      rw [cells_strs] at e2
      match cs', hl2 with
      | [u0, u1, u2], _ =>
        simp only [List.drop_zero, List.take_succ_cons, List.take_zero, List.drop_succ_cons] at e0 e1 e2
        obtain ⟨s0, f0, g0, _⟩ := DataW.trod_string Tryz.underlying9 e0
        obtain ⟨s1, f1, g1, _⟩ := DataW.trod_string Tryz.underlying9 e1
        obtain ⟨av, nv, cv, l, f2, hA, hnc, hbk, _⟩ := open_strs e2
        simp only [List.cons.injEq, and_true] at f0 f1
        subst f0 f1 g0 g1 f2
        simp only [Prod.mk.injEq] at e
        have c0 := hc2 0 (by omega)
        have c1 := hc2 1 (by omega)
        have c2 := hc2 2 (by omega)
        have ea : (a.add (i * 3)).add 0 = a.add (i * 3) := by simp [Addr.add]
        rw [ea] at c0
        refine ⟨((s0.data.toList, s1.data.toList), l), c0, c1, ⟨av, nv, cv, c2, hA, hnc⟩, ?_⟩
        rw [e.1]
        simp only [sizeP, Rows.uptoBulk, Rows.uptoBulkAll]
        omega
    obtain ⟨F, hF⟩ := choose_lt (α := Way) one
    refine ⟨some a, len, cap, (List.range len).map F, rfl, ⟨by simp, fun hn => ?_⟩, hl, ?_⟩
    · have h00 := (hF 0 (by omega)).1
      obtain ⟨b, off, spot⟩ := a
      have hspot : spot = none := by simpa [Addr.add] using World.cell?_spot h00
      subst hspot
      refine ⟨b, off, rfl, ?_, fun j hj => ?_⟩
      · have := World.block_lt_of_cell? w _ h00
        simpa [Addr.add] using this
      · obtain ⟨k0, k1, ⟨av, nv, cv, k2, hA, hnc⟩, _⟩ := hF j hj
        rw [Go.WideShapes.add_plain] at k0 k1 k2
        rw [Go.WideShapes.add_plain] at k1 k2
        rw [getElem!_pos _ j (by simpa using hj)]
        simp only [List.getElem_map, List.getElem_range]
        exact ⟨av, nv, cv, k0, k1, k2, hA, hnc⟩
    · rw [hx]
      simp only [Rows.uptoBulk]
      have := upto_range D (fun i => sizeP (F i)) len (fun i hi => (hF i hi).2.2.2)
      unfold sumBy
      rw [List.map_map]
      exact Nat.le_trans this (by omega)

theorem open_topo {r : Reach} {b0 : Nat} {v : Value} {d : DataW H} {p : List MemPlace} (hv : Value.okWide Tryz.prog w r b0 26 v) (h : DataW.Trod enc Tryz.prog w base spare held 26 v d p) :
    ∃ (t : Tv) (T : Topo), v = .agg #[.slice t.ar t.nr t.cr, .slice t.al t.nl t.cl, .slice t.ap t.np t.cp] ∧ Tt w t T ∧ bulkT T ≤ Rows.uptoBulk d := by
  obtain ⟨v0, v1, v2, y0, y1, y2, n, rfl, rfl, _, h0, h1, h2⟩ := open_agg3 Tryz.underlying26 (by kernel_rfl) cells_topo hv h
  obtain ⟨ar, nr, cr, R, rfl, hR, hr1, hr2, _⟩ := open_strs h0
  obtain ⟨al, nl, cl, L, rfl, hL, hl1, hl2⟩ := open_links h1
  obtain ⟨ap, np, cp, P, rfl, hP, hp1, hp2⟩ := open_ways h2
  refine ⟨⟨ar, nr, cr, al, nl, cl, ap, np, cp⟩, ⟨R, L, P⟩, rfl, ⟨hR, hL, hP, hr1, hl1, hp1⟩, ?_⟩
  simp only [bulkT, Rows.uptoBulk, Rows.uptoBulkAll]
  omega

theorem upto_part {d : DataW H} {l : List (DataW H)} (h : d ∈ l) : Rows.uptoBulk d ≤ Rows.uptoBulkAll l := by
  induction l with
  | nil => cases h
  | cons x r ih =>
    simp only [Rows.uptoBulkAll]
    cases List.mem_cons.1 h with
    | inl e => subst e; omega
    | inr e => have := ih e; omega
theorem upto_bound {l : List (DataW H)} (hk : Rows.uptoSmall H l = true) : Rows.uptoBulkAll l ≤ 1048576 := of_decide_eq_true hk
theorem weights_of {ts : List TypeId} {ds : List (DataW H)} (h : (DataW.weightsEach Tryz.prog ts ds).all (· ≤ reachBytes) = true) {j : Nat} {t : TypeId} {d : DataW H} (ht : ts[j]? = some t) (hd : ds[j]? = some d) : ∀ q ∈ DataW.weights Tryz.prog t d, q ≤ reachBytes := fun q hq => by
  have := List.all_eq_true.1 h q (DataW.weights_mem_each ht hd q hq)
  simpa using this
/-- A row of texts that came in: each is within the reach. -/
theorem open_texts {r : Reach} {b0 : Nat} {v : Value} {d : DataW H} {p : List MemPlace} (hv : Value.okWide Tryz.prog w r b0 22 v) (h : DataW.Trod enc Tryz.prog w base spare held 22 v d p) (hw : ∀ q ∈ DataW.weights Tryz.prog 22 d, q ≤ reachBytes) :
    ∃ ad n c l, v = .slice ad n c ∧ At w ad n l ∧ n ≤ c ∧ (∀ x ∈ l, x.length ≤ 140737488351232) ∧ sumBy sizeS l ≤ Rows.uptoBulk d := by
  obtain ⟨ad, n, c, rfl⟩ := okWide_slice Tryz.underlying22 hv
  obtain ⟨fuel, hf⟩ := h
  rcases open_strings Tryz.underlying22 Tryz.underlying9 cells_str hf with ⟨hcs, hx⟩ | ⟨a, len, cap, ss, hcs, _, hl, hm, hz, hx, hcell, hsz⟩
  · simp only [Value.cells, List.cons.injEq, Value.slice.injEq, and_true] at hcs
    obtain ⟨rfl, rfl, rfl⟩ := hcs
    exact ⟨none, 0, 0, [], rfl, At.nil _ _, Nat.le_refl _, by simp, by simp [sumBy]⟩
  · simp only [Value.cells, List.cons.injEq, Value.slice.injEq, and_true] at hcs
    obtain ⟨rfl, rfl, rfl⟩ := hcs
    have hlen : n ≤ ss.length := by rw [hz]; split <;> omega
    refine ⟨some a, n, c, (ss.take n).map fun s => s.data.toList, rfl, ⟨by simp; omega, fun hn => ?_⟩, hl, ?_, ?_⟩
    · obtain ⟨b, off, spot⟩ := a
      have h00 := hcell 0 (by omega)
      have hspot : spot = none := by simpa [Addr.add] using World.cell?_spot h00
      subst hspot
      refine ⟨b, off, rfl, ?_, fun j hj => ?_⟩
      · have := World.block_lt_of_cell? w _ h00
        simpa [Addr.add] using this
      · have hc := hcell j (by omega)
        rw [Go.WideShapes.add_plain] at hc
        rw [hc, getElem!_pos _ j (by simp; omega)]
        simp only [List.getElem_map, List.getElem_take]
        rw [List.getD_eq_getElem?_getD, List.getElem?_eq_getElem (by omega)]
        rfl
    · intro x hx'
      simp only [List.mem_map] at hx'
      obtain ⟨s, hs, rfl⟩ := hx'
      have hd : d = .slice (ChangeShapes.strs (ss.take n)) (ChangeShapes.strs (ss.drop n)) := by simp only [Prod.mk.injEq] at hx; exact hx.1
      have hin : ∀ L : List ByteArray, s ∈ L → s.data.toList.length ∈ DataW.weightsAll Tryz.prog 9 (ChangeShapes.strs L : List (DataW H)) := fun L => by
        induction L with
        | nil => intro h; simp at h
        | cons y L ih =>
          intro h
          have e : ChangeShapes.strs (y :: L) = (.lit (.string y.data.toList) : DataW H) :: ChangeShapes.strs L := rfl
          rw [e]
          simp only [DataW.weightsAll, List.mem_append]
          rcases List.mem_cons.1 h with rfl | h
          · exact .inl (by simp [DataW.weights])
          · exact .inr (ih h)
      have := hw s.data.toList.length (by rw [hd]; simp only [DataW.weights, Tryz.underlying22, List.mem_cons, List.mem_append]; exact .inr (.inl (hin _ hs)))
      simp only [reachBytes] at this
      exact this
    · simp only [Prod.mk.injEq] at hx
      rw [hx.1]
      simp only [Rows.uptoBulk]
      rw [upto_strs]
      omega
end
end Go.Proofs.YtcleonpckgfdhaaGreatDoor
