/-
  Realms, links and ways as the world holds them; two links compared; a link among links.
-/
import Derived.Test.YtcleonpckgfdhaaGreatDoorRtShelf
import Derived.Test.YtcleonpckgfdhaaGreatDoorRtTree
import Derived.Test.YtcleonpckgfdhaaGreatDoorTexts
import Derived.Test.YtcleonpckgfdhaaGreatDoorAppW
import Derived.ChangeKeysEq
import Derived.Laws.StructEq
set_option linter.unusedVariables false
set_option linter.unusedSimpArgs false
namespace Go.Proofs.YtcleonpckgfdhaaGreatDoor
open Go Go.RowKit Go.Lib Go.Shelf

theorem cell_new {w : World} {k : Nat} (hk : w.heap.size = k) (cs : Array Value) (t : TypeId) {i : Nat} {v : Value} (h : cs[i]? = some v) : (w.alloc (.cells cs t)).cell? ⟨k, i, none⟩ = some v := by
  subst hk
  exact (cell_of_row _ _ _ _ _ _ (heap_alloc_new w (.cells cs t))).trans h
theorem cell_old {w : World} {p : Addr} {v : Value} (o : Obj) (h : w.cell? p = some v) : (w.alloc o).cell? p = some v := Lib.cell?_alloc_some _ h

structure LinksAt (w : World) (ad : Option Addr) (n : Nat) (L : List Link) : Prop where
  len : L.length = n
  cell : 0 < n → ∃ b off, ad = some ⟨b, off, none⟩ ∧ b < w.heap.size ∧ ∀ j, j < n → w.cell? ⟨b, off + j * 2, none⟩ = some (.string ⟨L[j]!.1.toArray⟩) ∧ w.cell? ⟨b, off + j * 2 + 1, none⟩ = some (.string ⟨L[j]!.2.toArray⟩)
structure WaysAt (w : World) (ad : Option Addr) (n : Nat) (P : List Way) : Prop where
  len : P.length = n
  cell : 0 < n → ∃ b off, ad = some ⟨b, off, none⟩ ∧ b < w.heap.size ∧ ∀ j, j < n → ∃ av nv cv, w.cell? ⟨b, off + j * 3, none⟩ = some (.string ⟨P[j]!.1.1.toArray⟩) ∧ w.cell? ⟨b, off + j * 3 + 1, none⟩ = some (.string ⟨P[j]!.1.2.toArray⟩) ∧ w.cell? ⟨b, off + j * 3 + 2, none⟩ = some (.slice av nv cv) ∧ At w av nv P[j]!.2 ∧ nv ≤ cv

theorem LinksAt.below {w w' : World} {ad : Option Addr} {n : Nat} {L : List Link} (h : LinksAt w ad n L) (hb : Below w.heap.size w w') : LinksAt w' ad n L := by
  refine ⟨h.len, fun hn => ?_⟩
  obtain ⟨b, off, e, hlt, hc⟩ := h.cell hn
  exact ⟨b, off, e, Nat.lt_of_lt_of_le hlt hb.size, fun j hj => ⟨(hb.cell (p := ⟨b, off + j * 2, none⟩) hlt).trans (hc j hj).1, (hb.cell (p := ⟨b, off + j * 2 + 1, none⟩) hlt).trans (hc j hj).2⟩⟩
theorem WaysAt.below {w w' : World} {ad : Option Addr} {n : Nat} {P : List Way} (h : WaysAt w ad n P) (hb : Below w.heap.size w w') : WaysAt w' ad n P := by
  refine ⟨h.len, fun hn => ?_⟩
  obtain ⟨b, off, e, hlt, hc⟩ := h.cell hn
  refine ⟨b, off, e, Nat.lt_of_lt_of_le hlt hb.size, fun j hj => ?_⟩
  obtain ⟨av, nv, cv, h1, h2, h3, h4, h5⟩ := hc j hj
  exact ⟨av, nv, cv, (hb.cell (p := ⟨b, off + j * 3, none⟩) hlt).trans h1, (hb.cell (p := ⟨b, off + j * 3 + 1, none⟩) hlt).trans h2, (hb.cell (p := ⟨b, off + j * 3 + 2, none⟩) hlt).trans h3, h4.below hb, h5⟩

/-- A topology's three slices. -/
structure Tv where
  ar : Option Addr
  nr : Nat
  cr : Nat
  al : Option Addr
  nl : Nat
  cl : Nat
  ap : Option Addr
  np : Nat
  cp : Nat
structure Tt (w : World) (v : Tv) (T : Topo) : Prop where
  r : At w v.ar v.nr T.realms
  l : LinksAt w v.al v.nl T.links
  p : WaysAt w v.ap v.np T.paths
  cr : v.nr ≤ v.cr
  cl : v.nl ≤ v.cl
  cp : v.np ≤ v.cp
theorem Tt.below {w w' : World} {v : Tv} {T : Topo} (h : Tt w v T) (hb : Below w.heap.size w w') : Tt w' v T := ⟨h.r.below hb, h.l.below hb, h.p.below hb, h.cr, h.cl, h.cp⟩

/-- **TWO LINKS COMPARED.** -/
theorem run_link_eq (a b c d : ByteArray) (w : World) : (Op.equalIn 10000 39 (.agg #[.string a, .string b]) (.agg #[.string c, .string d])).run Tryz.prog w = .ok (decide ((a.data.toList, b.data.toList) = (c.data.toList, d.data.toList))) w := by
  have hI := info_str
  rw [Option.map_eq_some_iff] at hI
  obtain ⟨i0, hi, he⟩ := hI
  have h3 := Tryz.isAgg9
  have hc : Tryz.prog.cellsOf 9 = 1 := by kernel_rfl
  rw [show (10000 : Nat) = 9999 + 1 from rfl, run_equalIn_array w 9999 _ _ Tryz.underlying39 hi, hc]
  have e1 : ∀ (x y : ByteArray), (Op.equalIn 9999 9 (.string x) (.string y)).run Tryz.prog w = .ok (x.toList == y.toList) w := fun x y => run_equalIn_string w 9998 9 x y Tryz.underlying9
  have k : ∀ x y : ByteArray, (x.toList == y.toList) = decide (x.data.toList = y.data.toList) := fun x y => by
    rw [ByteArray.toList_eq, ByteArray.toList_eq, Bool.eq_iff_iff]
    simp
  simp only [List.range, List.range.loop, Op.eqItems, Sem.run_bind]
  have p1 : ∀ (x y : ByteArray), (part 9 #[.string x, .string y] (0 * 1)).run Tryz.prog w = .ok (.string x) w := fun x y => by simp [part, h3]
  have p2 : ∀ (x y : ByteArray), (part 9 #[.string x, .string y] (1 * 1)).run Tryz.prog w = .ok (.string y) w := fun x y => by simp [part, h3]
  simp only [Result.andThen_ok, p1, p2, e1, k]
  by_cases h1 : a.data.toList = c.data.toList <;> by_cases h2 : b.data.toList = d.data.toList <;> simp [h1, h2, p1, p2, e1, k]
end Go.Proofs.YtcleonpckgfdhaaGreatDoor
