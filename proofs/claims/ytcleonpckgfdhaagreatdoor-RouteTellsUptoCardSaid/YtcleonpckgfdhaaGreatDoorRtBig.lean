/-
  legatelaw7.big, pick.
-/
import Derived.Test.YtcleonpckgfdhaaGreatDoorRtRefIs
import Derived.IntWalk
set_option linter.unusedVariables false
set_option linter.unusedSimpArgs false
set_option maxRecDepth 100000
namespace Go.Proofs.YtcleonpckgfdhaaGreatDoor
open Go Go.RowKit Go.Lib Go.Shelf

def sumBy {α : Type} (f : α → Nat) (l : List α) : Nat := (l.map f).sum
theorem sumBy_step {α : Type} [Inhabited α] (f : α → Nat) {l : List α} {i : Nat} (h : i < l.length) : sumBy f (l.take (i + 1)) = sumBy f (l.take i) + f l[i]! := by
  have e : l.take (i + 1) = l.take i ++ [l[i]] := (List.take_append_getElem h).symm
  rw [e, getElem!_pos l i h]
  unfold sumBy
  rw [List.map_append, List.sum_append]
  rfl
theorem sumBy_le {α : Type} (f : α → Nat) (l : List α) (i : Nat) : sumBy f (l.take i) ≤ sumBy f l := by
  conv => rhs; rw [← List.take_append_drop i l]
  unfold sumBy
  rw [List.map_append, List.sum_append]
  omega
theorem sumBy_mem {α : Type} (f : α → Nat) {l : List α} {x : α} (h : x ∈ l) : f x ≤ sumBy f l := by
  induction l with
  | nil => simp at h
  | cons y t ih =>
    simp only [sumBy, List.map_cons, List.sum_cons]
    rcases List.mem_cons.1 h with rfl | h
    · omega
    · have := ih h
      unfold sumBy at this
      omega
theorem sumBy_len {α : Type} (f : α → Nat) (hf : ∀ x, 1 ≤ f x) (l : List α) : l.length ≤ sumBy f l := by
  induction l with
  | nil => simp
  | cons y t ih => have := hf y; simp only [sumBy, List.map_cons, List.sum_cons, List.length_cons]; unfold sumBy at ih; omega
def sizeS (x : Str) : Nat := 1 + x.length
def sizeL (x : Link) : Nat := 1 + x.1.length + x.2.length
def sizeP (p : Way) : Nat := 1 + p.1.1.length + p.1.2.length + sumBy sizeS p.2
def bulkT (T : Topo) : Nat := sumBy sizeS T.realms + (sumBy sizeL T.links + sumBy sizeP T.paths)

set_option maxHeartbeats 8000000 in
theorem big_any (w : World) (v : Tv) (T : Topo) (hT : Tt w v T) (hB : bulkT T ≤ 4000000000000000000) :
    Calls Tryz.prog 4 #[.agg #[.slice v.ar v.nr v.cr, .slice v.al v.nl v.cl, .slice v.ap v.np v.cp]] w fun e w' => e = .returned (.bool (decide (3000 < bulkT T))) ∧ Below w.heap.size w w' := by
  obtain ⟨ar, nr, cr, al, nl, cl, ap, np, cp⟩ := v
  dsimp only
  obtain ⟨R, hR⟩ : ∃ R, R = decide (3000 < bulkT T) := ⟨_, rfl⟩
  rw [← hR]
  have HR := Lib.hid hR
  obtain ⟨w1, hw1⟩ : ∃ w1, w1 = w.alloc (.cells #[.slice ar nr cr, .slice al nl cl, .slice ap np cp] 26) := ⟨_, rfl⟩
  have acc : Below w.heap.size w w1 := by rw [hw1]; exact (Below.refl _ _).alloc (Nat.le_refl _) _
  have hz : w1.heap.size = w.heap.size + 1 := by rw [hw1]; simp
  have k0 : ∀ (i : Nat) x, (#[Value.slice ar nr cr, .slice al nl cl, .slice ap np cp] : Array Value)[i]? = some x → w1.cell? ⟨w.heap.size, i, none⟩ = some x := fun i x h => by rw [hw1]; exact cell_new rfl _ _ h
  have keep : ∀ w2, Below w1.heap.size w1 w2 → w2.cell? ⟨w.heap.size, 0, none⟩ = some (.slice ar nr cr) ∧ w2.cell? ⟨w.heap.size, 1, none⟩ = some (.slice al nl cl) ∧ w2.cell? ⟨w.heap.size, 2, none⟩ = some (.slice ap np cp) := fun w2 h =>
    ⟨(h.cell (p := ⟨w.heap.size, 0, none⟩) (by show w.heap.size < _; omega)).trans (k0 0 _ rfl), (h.cell (p := ⟨w.heap.size, 1, none⟩) (by show w.heap.size < _; omega)).trans (k0 1 _ rfl), (h.cell (p := ⟨w.heap.size, 2, none⟩) (by show w.heap.size < _; omega)).trans (k0 2 _ rfl)⟩
  have HT := Lib.hid (hT.below acc)
  have KEEP := Lib.hid keep
  have ACC := Lib.hid acc
  have HW1 := Lib.hid hw1
  have b1 : sumBy sizeS T.realms ≤ 4000000000000000000 := by unfold bulkT at hB; omega
  have b2 : sumBy sizeS T.realms + sumBy sizeL T.links ≤ 4000000000000000000 := by unfold bulkT at hB; omega
  have b3 : sumBy sizeS T.realms + sumBy sizeL T.links + sumBy sizeP T.paths ≤ 4000000000000000000 := by unfold bulkT at hB; omega
  have B1 := Lib.hid b1
  have B2 := Lib.hid b2
  have B3 := Lib.hid b3
  have l1 : nr ≤ 4000000000000000000 := by have := sumBy_len sizeS (fun x => by unfold sizeS; omega) T.realms; have e : T.realms.length = nr := hT.r.len; omega
  have l2 : nl ≤ 4000000000000000000 := by have := sumBy_len sizeL (fun x => by unfold sizeL; omega) T.links; have e : T.links.length = nl := hT.l.len; omega
  have l3 : np ≤ 4000000000000000000 := by have := sumBy_len sizeP (fun x => by unfold sizeP; omega) T.paths; have e : T.paths.length = np := hT.p.len; omega
  obtain ⟨s1, hs1⟩ : ∃ s1, s1 = sumBy sizeS T.realms := ⟨_, rfl⟩
  obtain ⟨s2, hs2⟩ : ∃ s2, s2 = s1 + sumBy sizeL T.links := ⟨_, rfl⟩
  have HS1 := Lib.hid hs1
  have HS2 := Lib.hid hs2
  clear hT hR hw1 acc hz k0 keep hB b1 b2 b3 hs1 hs2
  go_enter Tryz.func4, Tryz.ntmps4
  go_wp2
  go_loopg [3, 4] nr (fun gg s3 s4 wr => ∃ (i m : Nat), i ≤ nr ∧ nr - i ≤ gg ∧ s4 = .int .i64 i ∧ s3 = .int .i64 m ∧ Aside (m = sumBy sizeS (T.realms.take i)) ∧ Aside (Below w1.heap.size w1 wr))
  case atStart => exact ⟨0, 0, by omega, by omega, rfl, rfl, rfl, by rw [← HW1.out]; exact Below.refl _ _⟩
  case round =>
    obtain ⟨i, m, hi, hgg, rfl, rfl, HM, HB⟩ := hrel
    obtain ⟨a0, a1, a2⟩ := KEEP.out wr HB.out
    by_cases hlt : i < nr
    · have hltz : (i : Int) < (nr : Int) := by omega
      obtain ⟨b, off, hb, hbl, hc⟩ := HT.out.r.cell (show 0 < nr by omega)
      obtain ⟨x, hx⟩ : ∃ x : ByteArray, x = ⟨T.realms[i]!.toArray⟩ := ⟨_, rfl⟩
      have hxs : x.size = T.realms[i]!.length := by rw [hx]; rfl
      have c0 := (HB.out.cell (p := ⟨b, off + i, none⟩) hbl).trans (hc i hlt)
      rw [← hx] at c0
      have hst := sumBy_step sizeS (l := T.realms) (i := i) (Nat.lt_of_lt_of_eq hlt HT.out.r.len.symm)
      have hst2 := sumBy_le sizeS T.realms (i + 1)
      have hm2 : m + 1 + x.size = sumBy sizeS (T.realms.take (i + 1)) := by have e := HM.out; unfold sizeS at hst e ⊢; omega
      have hbb := B1.out
      have hmz : (m : Int) + 1 + (x.size : Int) ≤ 9223372036854775807 := by omega
      have hmz1 : (m : Int) + 1 ≤ 9223372036854775807 := by omega
      have HM2 := Lib.hid hm2
      subst hb
      clear hc hx hxs hst hst2 hm2 hbb
      go_wp2
      go_roundg (nr - (i + 1))
      case measure => omega
      case rel => exact ⟨i + 1, m + 1 + x.size, by omega, by omega, by go_num, by go_num, HM2.out, HB.out⟩
    · have hin : nr = i := by omega
      subst hin
      have hm : m = s1 := by rw [HM.out, HS1.out, List.take_of_length_le (Nat.le_of_eq HT.out.r.len)]
      subst hm
      have HB1 := Lib.hid HB.out
      clear HM HB hlt
      go_wp2
      clear a0 a1 a2
      go_loopg [3, 5] nl (fun gg s3 s5 wr => ∃ (i m' : Nat), i ≤ nl ∧ nl - i ≤ gg ∧ s5 = .int .i64 i ∧ s3 = .int .i64 m' ∧ Aside (m' = m + sumBy sizeL (T.links.take i)) ∧ Aside (Below w1.heap.size w1 wr))
      case atStart => exact ⟨0, m, by omega, by omega, rfl, rfl, rfl, HB1.out⟩
      case round =>
        obtain ⟨i, m', hi, hgg, rfl, rfl, HM, HB⟩ := hrel
        obtain ⟨a0, a1, a2⟩ := KEEP.out wr HB.out
        by_cases hlt : i < nl
        · have hltz : (i : Int) < (nl : Int) := by omega
          have hi0 : (0 : Int) ≤ (i : Int) := by omega
          obtain ⟨b, off, hb, hbl, hc⟩ := HT.out.l.cell (show 0 < nl by omega)
          obtain ⟨x, hx⟩ : ∃ x : ByteArray, x = ⟨T.links[i]!.1.toArray⟩ := ⟨_, rfl⟩
          obtain ⟨y, hy⟩ : ∃ y : ByteArray, y = ⟨T.links[i]!.2.toArray⟩ := ⟨_, rfl⟩
          have hxs : x.size = T.links[i]!.1.length := by rw [hx]; rfl
          have hys : y.size = T.links[i]!.2.length := by rw [hy]; rfl
          have c0 := (HB.out.cell (p := ⟨b, off + i * 2, none⟩) hbl).trans (hc i hlt).1
          have c1 := (HB.out.cell (p := ⟨b, off + i * 2 + 1, none⟩) hbl).trans (hc i hlt).2
          rw [← hx] at c0
          rw [← hy] at c1
          have hst := sumBy_step sizeL (l := T.links) (i := i) (Nat.lt_of_lt_of_eq hlt HT.out.l.len.symm)
          have hst2 := sumBy_le sizeL T.links (i + 1)
          have hm2 : m' + 1 + x.size + y.size = m + sumBy sizeL (T.links.take (i + 1)) := by have e := HM.out; unfold sizeL at hst e ⊢; omega
          have hbb := B2.out
          have hs1 := HS1.out
          have hmz : (m' : Int) + 1 + (x.size : Int) + (y.size : Int) ≤ 9223372036854775807 := by omega
          have v1 : IntKind.i64.wrap ((m' : Int) + 1) = (m' : Int) + 1 := IntWalk.i64_in _ (by omega)
          have v2 : IntKind.i64.wrap ((m' : Int) + 1 + (x.size : Int)) = (m' : Int) + 1 + (x.size : Int) := IntWalk.i64_in _ (by omega)
          have v3 : IntKind.i64.wrap ((m' : Int) + 1 + (x.size : Int) + (y.size : Int)) = (m' : Int) + 1 + (x.size : Int) + (y.size : Int) := IntWalk.i64_in _ (by omega)
          have HM2 := Lib.hid hm2
          subst hb
          clear hc hx hxs hy hys hst hst2 hm2 hbb hs1
          go_wp2_with fail
          go_quiet (fail)
          clear v1 v2 v3
          go_wp2
          go_roundg (nl - (i + 1))
          case measure => omega
          case rel => exact ⟨i + 1, m' + 1 + x.size + y.size, by omega, by omega, by go_num, by go_num, HM2.out, below_drewN HB.out _⟩
        · have hin : nl = i := by omega
          subst hin
          have hm : m' = s2 := by rw [HM.out, HS2.out, List.take_of_length_le (Nat.le_of_eq HT.out.l.len)]
          subst hm
          have HB2 := Lib.hid HB.out
          clear HM HB hlt
          go_wp2
          clear a0 a1 a2
          go_loopg [3, 6] np (fun gg s3 s6 wr => ∃ (i m3 : Nat), i ≤ np ∧ np - i ≤ gg ∧ s6 = .int .i64 i ∧ s3 = .int .i64 m3 ∧ Aside (m3 = m' + sumBy sizeP (T.paths.take i)) ∧ Aside (Below w1.heap.size w1 wr))
          case atStart => exact ⟨0, m', by omega, by omega, rfl, rfl, rfl, HB2.out⟩
          case round =>
            obtain ⟨i, m3, hi, hgg, rfl, rfl, HM, HB⟩ := hrel
            obtain ⟨a0, a1, a2⟩ := KEEP.out wr HB.out
            by_cases hlt : i < np
            · have hltz : (i : Int) < (np : Int) := by omega
              have hi0 : (0 : Int) ≤ (i : Int) := by omega
              obtain ⟨b, off, hb, hbl, hc⟩ := HT.out.p.cell (show 0 < np by omega)
              obtain ⟨av, nv, cv, h1, h2, h3, hV, hnv⟩ := hc i hlt
              obtain ⟨x, hx⟩ : ∃ x : ByteArray, x = ⟨T.paths[i]!.1.1.toArray⟩ := ⟨_, rfl⟩
              obtain ⟨y, hy⟩ : ∃ y : ByteArray, y = ⟨T.paths[i]!.1.2.toArray⟩ := ⟨_, rfl⟩
              have hxs : x.size = T.paths[i]!.1.1.length := by rw [hx]; rfl
              have hys : y.size = T.paths[i]!.1.2.length := by rw [hy]; rfl
              have c0 := (HB.out.cell (p := ⟨b, off + i * 3, none⟩) hbl).trans h1
              have c1 := (HB.out.cell (p := ⟨b, off + i * 3 + 1, none⟩) hbl).trans h2
              have c2 := fun W (hW : Below w1.heap.size w1 W) => (hW.cell (p := ⟨b, off + i * 3 + 2, none⟩) hbl).trans h3
              rw [← hx] at c0
              rw [← hy] at c1
              have hst := sumBy_step sizeP (l := T.paths) (i := i) (Nat.lt_of_lt_of_eq hlt HT.out.p.len.symm)
              have hst2 := sumBy_le sizeP T.paths (i + 1)
              obtain ⟨V, hVV⟩ : ∃ V, V = T.paths[i]!.2 := ⟨_, rfl⟩
              rw [← hVV] at hV
              have hm2 : m3 + 1 + x.size + y.size + sumBy sizeS V = m' + sumBy sizeP (T.paths.take (i + 1)) := by have e := HM.out; unfold sizeP at hst e ⊢; rw [← hVV] at hst; omega
              have hbb := B3.out
              have hs1 := HS1.out
              have hs2 := HS2.out
              have hmz : (m3 : Int) + 1 + (x.size : Int) + (y.size : Int) + (sumBy sizeS V : Int) ≤ 9223372036854775807 := by omega
              have hmN : m3 + 1 + x.size + y.size + sumBy sizeS V ≤ 9223372036854775807 := by omega
              have v1 : IntKind.i64.wrap ((m3 : Int) + 1) = (m3 : Int) + 1 := IntWalk.i64_in _ (by omega)
              have v2 : IntKind.i64.wrap ((m3 : Int) + 1 + (x.size : Int)) = (m3 : Int) + 1 + (x.size : Int) := IntWalk.i64_in _ (by omega)
              have v3 : IntKind.i64.wrap ((m3 : Int) + 1 + (x.size : Int) + (y.size : Int)) = (m3 : Int) + 1 + (x.size : Int) + (y.size : Int) := IntWalk.i64_in _ (by omega)
              have HM2 := Lib.hid hm2
              have HVA := Lib.hid hV
              have C2 := Lib.hid c2
              have hvl : nv ≤ 9223372036854775807 := by have := sumBy_len sizeS (fun x => by unfold sizeS; omega) V; have e := hV.len; omega
              subst hb
              clear hc h1 h2 h3 hV c2 hx hxs hy hys hst hst2 hm2 hbb hs1 hs2 hVV
              go_wp2_with fail
              go_quiet (fail)
              clear v1 v2 v3
              go_wp2
              have HBQ := Lib.hid (below_drewN HB.out nq)
              obtain ⟨wo, rfl⟩ : ∃ wo : World, wo = wr := ⟨_, rfl⟩
              clear a0 a1 a2 c0 c1
              go_loopg [3, 7] nv (fun gg s3 s7 wr2 => ∃ (j m4 : Nat), j ≤ nv ∧ nv - j ≤ gg ∧ s7 = .int .i64 j ∧ s3 = .int .i64 m4 ∧ Aside (m4 = m3 + 1 + x.size + y.size + sumBy sizeS (V.take j)) ∧ Aside (Below w1.heap.size w1 wr2))
              case atStart => exact ⟨0, m3 + 1 + x.size + y.size, by omega, by omega, rfl, by go_num, rfl, HBQ.out⟩
              case round =>
                obtain ⟨j, m4, hj, hgg2, rfl, rfl, HM4, HB4⟩ := hrel
                obtain ⟨a0, a1, a2⟩ := KEEP.out wr HB4.out
                have c2 := C2.out wr HB4.out
                by_cases hjt : j < nv
                · have hjz : (j : Int) < (nv : Int) := by omega
                  have hj0 : (0 : Int) ≤ (j : Int) := by omega
                  obtain ⟨b2, off2, hb2, hbl2, hc2⟩ := HVA.out.cell (by omega)
                  obtain ⟨z, hz⟩ : ∃ z : ByteArray, z = ⟨V[j]!.toArray⟩ := ⟨_, rfl⟩
                  have hzs : z.size = V[j]!.length := by rw [hz]; rfl
                  have cz := (HB4.out.cell (p := ⟨b2, off2 + j, none⟩) hbl2).trans (hc2 j hjt)
                  rw [← hz] at cz
                  have hst := sumBy_step sizeS (l := V) (i := j) (Nat.lt_of_lt_of_eq hjt HVA.out.len.symm)
                  have hst2 := sumBy_le sizeS V (j + 1)
                  have hm5 : m4 + 1 + z.size = m3 + 1 + x.size + y.size + sumBy sizeS (V.take (j + 1)) := by have e := HM4.out; unfold sizeS at hst e ⊢; omega
                  have hmz4 : (m4 : Int) + 1 + (z.size : Int) ≤ 9223372036854775807 := by omega
                  have hmz5 : (m4 : Int) + 1 ≤ 9223372036854775807 := by omega
                  have HM5 := Lib.hid hm5
                  subst hb2
                  clear hc2 hz hzs hst hst2 hm5
                  go_wp2
                  go_roundg (nv - (j + 1))
                  case measure => omega
                  case rel => exact ⟨j + 1, m4 + 1 + z.size, by omega, by omega, by go_num, by go_num, HM5.out, HB4.out⟩
                · have hjn : nv = j := by omega
                  subst hjn
                  have hm5 : m4 = m' + sumBy sizeP (T.paths.take (i + 1)) := by rw [HM4.out, List.take_of_length_le (Nat.le_of_eq HVA.out.len)]; exact HM2.out
                  have HM5 := Lib.hid hm5
                  clear hm5
                  go_wp2
                  go_roundg (np - (i + 1))
                  case measure => omega
                  case rel => exact ⟨i + 1, m4, by omega, by omega, by go_num, rfl, HM5.out, HB4.out⟩
            · have hin : np = i := by omega
              subst hin
              have hm3 : m3 = bulkT T := by rw [HM.out, HS2.out, HS1.out, List.take_of_length_le (Nat.le_of_eq HT.out.p.len)]; unfold bulkT; omega
              have hbb := B3.out
              have hbt : m3 ≤ 4000000000000000000 := by rw [hm3]; unfold bulkT; omega
              by_cases h3 : 3000 < m3
              · have h3z : (3000 : Int) < (m3 : Int) := by omega
                have hr : R = true := by rw [HR.out, ← hm3]; exact decide_eq_true h3
                subst hr
                clear hm3 h3 hbb
                go_wp2
                go_ret
                exact ⟨rfl, ACC.out.trans (HB.out.mono ACC.out.size)⟩
              · have h3z : ¬ (3000 : Int) < (m3 : Int) := by omega
                have hr : R = false := by rw [HR.out, ← hm3]; exact decide_eq_false h3
                subst hr
                clear hm3 h3 hbb
                go_wp2
                go_ret
                exact ⟨rfl, ACC.out.trans (HB.out.mono ACC.out.size)⟩

end Go.Proofs.YtcleonpckgfdhaaGreatDoor
