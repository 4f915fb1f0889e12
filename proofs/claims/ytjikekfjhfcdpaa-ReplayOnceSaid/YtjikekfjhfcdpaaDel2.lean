/-
  slices.DeleteFunc at []api.Authn with the predicate of replay.See: the walk.
-/
import Derived.Test.YtjikekfjhfcdpaaDel
import Derived.Shelf.SlicesE.DeleteFunc
set_option linter.unusedVariables false
set_option linter.unusedSimpArgs false
namespace Go.Proofs.Ytjikekfjhfcdpaa
open Go Go.RowKit Go.Lib Go.Shelf

theorem RowAt.alloc {w : World} {g : Nat} {l : List Au} {tl : List Value} (h : RowAt w g l tl) (o : Obj) : RowAt (w.alloc o) g l tl := by
  have hlt := h.lt
  unfold RowAt at h ⊢
  rw [heap_alloc_old w o hlt]; exact h

/-- w with an authenticator laid at element i of the row. -/
def laid4 (w : World) (g i : Nat) (y : Au) : World := (((w.setCell ⟨g, i * 4, none⟩ (.string y.realm)).setCell ⟨g, i * 4 + 1, none⟩ (.string y.name)).setCell ⟨g, i * 4 + 2, none⟩ (.int .i64 y.time)).setCell ⟨g, i * 4 + 3, none⟩ (.int .i64 y.seq)

theorem RowAt.laid {w : World} {g : Nat} {l : List Au} {tl : List Value} (h : RowAt w g l tl) {i : Nat} (hi : i < l.length) (y : Au) : RowAt (laid4 w g i y) g (l.set i y) tl := by
  unfold RowAt at h ⊢
  have h1 := heap_setCell_same w g (i * 4) _ 29 (.string y.realm) h
  have h2 := heap_setCell_same _ g (i * 4 + 1) _ 29 (.string y.name) h1
  have h3 := heap_setCell_same _ g (i * 4 + 2) _ 29 (.int .i64 y.time) h2
  have h4 := heap_setCell_same _ g (i * 4 + 3) _ 29 (.int .i64 y.seq) h3
  have e : (((((encs l ++ tl).toArray.setIfInBounds (i * 4) (.string y.realm)).setIfInBounds (i * 4 + 1) (.string y.name)).setIfInBounds (i * 4 + 2) (.int .i64 y.time)).setIfInBounds (i * 4 + 3) (.int .i64 y.seq)) = (encs (l.set i y) ++ tl).toArray := by
    apply Array.toList_inj.1
    simp only [Array.toList_setIfInBounds]
    exact encs_set l i y hi tl
  rw [e] at h4
  exact h4

theorem grownBy_laid (w : World) (g i : Nat) (y : Au) : w.grownBy (laid4 w g i y) (some g) := by
  have e : laid4 w g i y = w.setCells g (i * 4) [.string y.realm, .string y.name, .int .i64 y.time, .int .i64 y.seq] := rfl
  rw [e]; exact grownBy_setCells g _ _ _

theorem grownBy_trans {a b c : World} {r : Option Nat} (h : a.grownBy b r) (k : b.grownBy c r) : a.grownBy c r :=
  ⟨k.os.trans h.os, k.tape.trans h.tape, k.output.trans h.output, Nat.le_trans h.size k.size, fun i hi hne => (k.block i (Nat.lt_of_lt_of_le hi h.size) hne).trans (h.block i hi hne)⟩
theorem grownBy_below {w w' : World} (h : Below w.heap.size w w') (r : Option Nat) : w.grownBy w' r := ⟨h.os, h.tape, h.output, h.size, fun k hk _ => h.block k hk⟩

/-- What the call leaves in memory. -/
def DelPost (w w' : World) (g : Nat) (l : List Au) (size : Nat) : Prop := ∃ tl', RowAt w' g l tl' ∧ (encs l ++ tl').length = size ∧ w.grownBy w' (some g)

set_option maxHeartbeats 4000000 in
set_option maxRecDepth 1000000 in
theorem delete_any (w : World) (nb g n cap : Nat) (now : Int) (hn : -4611686018427387904 ≤ now ∧ now ≤ 4611686018427387904) (hc : w.cell? ⟨nb, 0, none⟩ = some (.int .i64 now)) (hne : nb ≠ g)
    (zs : List Au) (tl : List Value) (hrow : RowAt w g zs tl) (hlen : zs.length = n) (hbig : n ≤ 4611686018427387904) (hcap : n ≤ cap) :
    Calls Try.prog 19 #[.slice (some ⟨g, 0, none⟩) n cap, .func (.func 20) #[] #[.pointer (some ⟨nb, 0, none⟩)]] w fun e w' => e = .returned (.slice (some ⟨g, 0, none⟩) (zs.filter (keep now)).length cap) ∧ DelPost w w' g (zs.filter (keep now)) (encs zs ++ tl).length := by
  have hnb : nb < w.heap.size := World.block_lt_of_cell? w _ hc
  have hIF := indexFunc_any w nb g n cap now hn hc hnb zs tl hrow hlen (by omega)
  have hkp : ∀ y, decide (y.time < now - 5) = !keep now y := fun y => by simp [keep]
  rcases idxByFrom_spec (fun (_ : Au) y => decide (y.time < now - 5)) default zs 0 with ⟨e1, hall⟩ | ⟨k0, hk0, e1, ht, hall⟩
  · have e2 : Lib.idxBy (fun (_ : Au) y => decide (y.time < now - 5)) zs default = -1 := e1
    rw [e2] at hIF
    have hfil : zs.filter (keep now) = zs := by
      rw [List.filter_eq_self]
      intro a ha
      obtain ⟨j, hj, rfl⟩ := List.mem_iff_getElem.1 ha
      have := hall j hj
      simp only [hkp] at this
      rw [getElem!_pos zs j hj] at this
      simpa using this
    have HR : Aside (RowAt w g zs tl) := hrow
    have HL : Aside (zs.length = n) := hlen
    have HF : Aside (zs.filter (keep now) = zs) := hfil
    clear hall hkp hfil hrow hlen e1 e2 hc
    go_enter Try.func19, Try.ntmps19
    go_wp2_with (go_at_call 22; refine hIF.mono ?_; rintro e w' ⟨rfl, hb0⟩)
    go_ret
    rw [HF.out]
    exact ⟨by rw [HL.out]; rfl, tl, HR.out.below hb0 HR.out.lt, rfl, grownBy_below hb0 _⟩
  · have e2 : Lib.idxBy (fun (_ : Au) y => decide (y.time < now - 5)) zs default = (k0 : Int) := by unfold Lib.idxBy; rw [e1]; simp
    rw [e2] at hIF
    have hne1 : ((k0 : Int) == -1) = false := beq_eq_false_iff_ne.2 (by omega)
    have HS : Aside (DelInv now zs k0 (k0 + 1) zs) := DelInv.start hk0 (fun j hj => by have := hall j hj; simp only [hkp] at this; simpa using this) (by simp only [hkp] at ht; simpa using ht)
    have HR : Aside (RowAt w g zs tl) := hrow
    have HC : Aside (w.cell? ⟨nb, 0, none⟩ = some (.int .i64 now)) := hc
    have HL : Aside (zs.length = n) := hlen
    have hk0' : k0 < n := by omega
    clear hrow hc hall ht e1 e2 hkp hlen hk0
    go_enter Try.func19, Try.ntmps19
    go_wp2_with (go_at_call 22; refine hIF.mono ?_; rintro e w' ⟨rfl, hb0⟩)
    go_loopg [5, 6, 7] n (fun gg s5 s6 _ wr => ∃ (i j : Nat) (dk : List Au), s5 = .int .i64 i ∧ s6 = .int .i64 j ∧ j ≤ n ∧ n - j ≤ gg ∧ Aside (DelInv now zs i j dk) ∧ Aside (RowAt wr g dk tl) ∧ Aside (w.grownBy wr (some g)))
    case atStart => exact ⟨k0, k0 + 1, zs, rfl, by go_num, by omega, by omega, HS, (HR.out.below hb0 HR.out.lt), grownBy_below hb0 _⟩
    case round =>
      obtain ⟨i, j, dk, rfl, rfl, hjn, hgg, HI, HRW, HG⟩ := hrel
      by_cases hlt : j < n
      · have hltz : (j : Int) < (n : Int) := by omega
        have hI := HI.out
        have hij := hI.lt
        have hRW := HRW.out
        have hlk : dk.length = zs.length := hI.len
        have hjk : j < dk.length := by rw [hlk]; have := hI.le; have := HL.out; omega
        have hik : i < dk.length := by omega
        have hget := hI.get (by omega)
        have c0 := hRW.cell (c := 0) hjk (by omega)
        have c1 := hRW.cell (c := 1) hjk (by omega)
        have c2 := hRW.cell (c := 2) hjk (by omega)
        have c3 := hRW.cell (c := 3) hjk (by omega)
        have d0 := hRW.cell (c := 0) hik (by omega)
        have d1 := hRW.cell (c := 1) hik (by omega)
        have d2 := hRW.cell (c := 2) hik (by omega)
        have d3 := hRW.cell (c := 3) hik (by omega)
        have f0 := hRW.free (i * 4)
        have f1 := hRW.free (i * 4 + 1)
        have f2 := hRW.free (i * 4 + 2)
        have f3 := hRW.free (i * 4 + 3)
        rw [hget] at c0 c1 c2 c3
        simp only [enc, Nat.add_zero, List.getElem?_cons_zero, List.getElem?_cons_succ] at c0 c1 c2 c3 d0 d1 d2 d3
        generalize hy : zs[j]! = y at c0 c1 c2 c3
        generalize dk[i]! = old at d0 d1 d2 d3
        have HY : Aside (zs[j]! = y) := hy
        have hgl : g < wr.heap.size := hRW.lt
        have hcw : wr.cell? ⟨nb, 0, none⟩ = some (.int .i64 now) := HG.out.cell HC.out (fun e => hne (by simpa using e))
        have hbw : nb < wr.heap.size := World.block_lt_of_cell? wr _ hcw
        have hin : i < n := by omega
        have hinz : (i : Int) < (n : Int) := by omega
        have HLT : Aside (i < j) := hij
        have HLK : Aside (dk.length = zs.length) := hlk
        clear hI hRW hjk hik hget hy hlk hij
        have hcl := closure_any (wr.alloc (.cells #[.string y.realm, .string y.name, .int .i64 y.time, .int .i64 y.seq] 29)) y nb now hn (by rw [Lib.cell?_alloc_some _ hcw]) (by simp; omega)
        have hne2 : nb ≠ wr.heap.size := by omega
        have hgs : g ≠ wr.heap.size := by omega
        cases hq : keep now y with
        | true =>
          have hq' : decide (y.time < now - 5) = false := by unfold keep at hq; simpa using hq
          rw [hq'] at hcl
          go_wp2_with (go_at_call 20; refine hcl.mono ?_; rintro e w' ⟨rfl, rfl⟩)
          go_roundg (n - (j + 1))
          case measure => omega
          case rel =>
            have hI := HI.out
            have hL := HL.out
            have hi' : i < dk.length := by rw [hI.len]; omega
            refine ⟨i + 1, j + 1, dk.set i y, by go_num, by go_num, by omega, by omega, ?_, ?_, ?_⟩
            · have := hI.keep_ (by omega) (by rw [HY.out]; exact hq)
              rw [HY.out] at this; exact this
            · exact ((HRW.out.laid hi' y).alloc _).alloc _
            · exact (grownBy_trans (grownBy_trans (grownBy_trans HG.out (grownBy_laid wr g i y)) (World.grownBy_alloc _ _ _)) (World.grownBy_alloc _ _ _))
        | false =>
          have hq' : decide (y.time < now - 5) = true := by unfold keep at hq; simpa using hq
          rw [hq'] at hcl
          go_wp2_with (go_at_call 20; refine hcl.mono ?_; rintro e w' ⟨rfl, rfl⟩)
          go_roundg (n - (j + 1))
          case measure => omega
          case rel =>
            have hI := HI.out
            have hL := HL.out
            refine ⟨i, j + 1, dk, rfl, by go_num, by omega, by omega, ?_, ?_, ?_⟩
            · exact hI.skip (by omega) (by rw [HY.out]; exact hq)
            · exact (HRW.out.alloc _).alloc _
            · exact (grownBy_trans (grownBy_trans HG.out (World.grownBy_alloc _ _ _)) (World.grownBy_alloc _ _ _))
      · obtain rfl : j = n := by have := HI.out.le; have := HL.out; omega
        have hltz : ¬ (j : Int) < (j : Int) := by omega
        have hI := HI.out
        have hij : i < j := hI.lt
        have hlk : dk.length = j := by rw [hI.len, HL.out]
        obtain ⟨zc, hcl⟩ : ∃ zc, ∀ ty, (Builtin.clear_ #[42] ty #[.slice (some ⟨g, i * 4, none⟩) (j - i) (cap - i)]).run Try.prog wr = .ok (.tuple #[]) (wr.setCells g (i * 4) zc) := by
          obtain ⟨zc, h⟩ := run_clear_row wr g i j cap 0 dk tl HRW.out hlk hij hcap
          exact ⟨zc, fun ty => h⟩
        obtain ⟨cur', hh1, hh2, hh3⟩ := heap_setCells g 29 zc (i * 4) wr _ HRW.out
        have hfil : (zs.filter (keep now)) = dk.take i := by rw [hI.low, List.take_of_length_le (by rw [HL.out]; exact Nat.le_refl _)]
        have hfl : (zs.filter (keep now)).length = i := by rw [hfil, List.length_take]; omega
        have H1 : Aside (wr.setCells g (i * 4) zc = wr.setCells g (i * 4) zc) := rfl
        have HFL : Aside ((zs.filter (keep now)).length = i) := hfl
        have HFI : Aside ((zs.filter (keep now)) = dk.take i) := hfil
        have HH1 : Aside ((wr.setCells g (i * 4) zc).heap[g]? = some (.cells cur' 29 (0, 0))) := hh1
        have HH2 : Aside (cur'.size = (encs dk ++ tl).toArray.size) := hh2
        have HH3 : Aside (∀ m, m ≤ i * 4 → cur'.toList.take m = (encs dk ++ tl).toArray.toList.take m) := hh3
        have HLK : Aside (dk.length = j) := hlk
        clear hfl hfil hI hh1 hh2 hh3 hlk
        go_wp2
        go_ret
        refine ⟨by rw [HFL.out]; rfl, cur'.toList.drop (i * 4), ?_, ?_, ?_⟩
        · unfold RowAt
          rw [HH1.out]
          congr 2
          have e : encs (zs.filter (keep now)) = cur'.toList.take (i * 4) := by
            rw [HH3.out _ (Nat.le_refl _), HFI.out, List.take_append_of_le_length (by rw [encs_length, HLK.out]; omega), encs_take]
          rw [e, List.take_append_drop]
        · rw [List.length_append, encs_length, HFL.out, List.length_drop, Array.length_toList, HH2.out]
          simp only [List.size_toArray, List.length_append, encs_length, HLK.out, HL.out]
          omega
        · exact grownBy_trans HG.out (grownBy_setCells g _ _ _)

end Go.Proofs.Ytjikekfjhfcdpaa
