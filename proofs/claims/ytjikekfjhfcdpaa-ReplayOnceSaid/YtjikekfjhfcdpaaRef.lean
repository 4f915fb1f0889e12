/-
  The reference's replay: See, New, Restart: what each answers and leaves.
-/
import Derived.Test.YtjikekfjhfcdpaaSee4
import Derived.Test.YtjikekfjhfcdpaaRep
set_option linter.unusedVariables false
set_option linter.unusedSimpArgs false
namespace Go.Proofs.Ytjikekfjhfcdpaa
open Go Go.RowKit Go.Lib Go.Shelf

/-- What a reference's block holds. -/
def Obj4 (w : World) (B : Nat) (v : Value) (on : Bool) (since : Int) : Prop := w.heap[B]? = some (.cells #[v, .bool on, .int .i64 since] 44 (0, 0))
theorem Obj4.lt {w : World} {B : Nat} {v : Value} {on : Bool} {since : Int} (h : Obj4 w B v on since) : B < w.heap.size := lt_of_block h
theorem Obj4.c0 {w : World} {B : Nat} {v : Value} {on : Bool} {since : Int} (h : Obj4 w B v on since) : w.cell? ⟨B, 0, none⟩ = some v := by unfold Obj4 at h; simp [World.cell?, h]
theorem Obj4.c1 {w : World} {B : Nat} {v : Value} {on : Bool} {since : Int} (h : Obj4 w B v on since) : w.cell? ⟨B, 1, none⟩ = some (.bool on) := by unfold Obj4 at h; simp [World.cell?, h]
theorem Obj4.c2 {w : World} {B : Nat} {v : Value} {on : Bool} {since : Int} (h : Obj4 w B v on since) : w.cell? ⟨B, 2, none⟩ = some (.int .i64 since) := by unfold Obj4 at h; simp [World.cell?, h]
theorem Obj4.f {w : World} {B : Nat} {v : Value} {on : Bool} {since : Int} (h : Obj4 w B v on since) (j : Nat) : w.frozen? ⟨B, j, none⟩ = false := by unfold Obj4 at h; simp [World.frozen?, h]
theorem Obj4.block {w w' : World} {B : Nat} {v : Value} {on : Bool} {since : Int} (h : Obj4 w B v on since) (e : w'.heap[B]? = w.heap[B]?) : Obj4 w' B v on since := by unfold Obj4 at h ⊢; rw [e]; exact h
theorem Obj4.put {w : World} {B : Nat} {v : Value} {on : Bool} {since : Int} (h : Obj4 w B v on since) (u : Value) : Obj4 (w.setCell ⟨B, 0, none⟩ u) B u on since := by
  unfold Obj4 at h ⊢
  rw [heap_setCell_same w B 0 _ 44 u h]; rfl

/-- What the reference's See leaves. -/
def RefPost (w w' : World) (B : Nat) (ad : Option Addr) (l : List Au) (on : Bool) (since : Int) : Prop :=
  ∃ ad' cap', Obj4 w' B (.slice ad' l.length cap') on since ∧ w'.ownsRow 0 29 4 (.slice ad' l.length cap') l.length (encs l) ∧ Fr (Foot B ad) w w' ∧ ∀ k, Foot B ad' k → Foot B ad k ∨ w.heap.size ≤ k

theorem refnew_any (now : Int) (w : World) :
    Calls Try.prog 15 #[.int .i64 now] w fun e w' => e = .returned (.pointer (some ⟨w.heap.size, 0, none⟩)) ∧ w' = w.alloc (.cells #[.slice none 0 0, .bool (now != 0), .int .i64 now] 44) := by
  go_enter Try.func15, Try.ntmps15
  go_wp2
  go_ret
  exact ⟨rfl, rfl⟩

theorem refrestart_any (w : World) (B : Nat) (ad : Option Addr) (n cap : Nat) (on : Bool) (since now : Int) (hO : Obj4 w B (.slice ad n cap) on since) :
    Calls Try.prog 17 #[.pointer (some ⟨B, 0, none⟩), .int .i64 now] w fun e w' => e = .returned (.tuple #[]) ∧ RefPost w w' B ad [] true now := by
  have b0 := hO.c0
  have b1 := hO.c1
  have b2 := hO.c2
  have f0 := hO.f 0
  have f1 := hO.f 1
  have f2 := hO.f 2
  have HO : Aside (Obj4 w B (.slice ad n cap) on since) := hO
  clear hO
  go_enter Try.func17, Try.ntmps17
  go_wp2
  go_end0
  refine ⟨rfl, none, 0, ?_, World.ownsRow_nil _ _ _ _, ?_, ?_⟩
  · have h := HO.out
    have h1 := heap_setCell_same w B 0 _ 44 (.slice none 0 0) h
    have h2 := heap_setCell_same _ B 1 _ 44 (.bool true) h1
    exact heap_setCell_same _ B 2 _ 44 (.int .i64 now) h2
  · exact (((Fr.refl _ w).setCell (p := ⟨B, 0, none⟩) (.inl rfl) _).setCell (p := ⟨B, 1, none⟩) (.inl rfl) _).setCell (p := ⟨B, 2, none⟩) (.inl rfl) _
  · intro k hk
    rcases hk with rfl | hk
    · exact .inl (.inl rfl)
    · simp [Value.ownBlock] at hk

/-- Behind the reference's append. -/
theorem ref_end {w w5 w6 : World} {B g6 cap6 : Nat} {ad la : Option Addr} {cap : Nat} {m : List Au} {a : Au} {on : Bool} {since : Int} {o : Obj}
    (hO : Obj4 w5 B (.slice la m.length cap) on since) (hb : Fr (Foot B ad) w w5) (hn : (Value.slice la m.length cap).ownBlock ≠ some B) (hf : ∀ k, Foot B la k → Foot B ad k ∨ w.heap.size ≤ k)
    (hown : w6.ownsRow 0 29 4 (.slice (some ⟨g6, 0, none⟩) (m.length + 1) cap6) (m.length + 1) (encs m ++ enc a)) (hg : (w5.alloc o).drew.grownBy w6 (Value.slice la m.length cap).ownBlock)
    (hat : (Value.slice la m.length cap).ownBlock = some g6 ∨ g6 = (w5.alloc o).drew.heap.size) (hla : ∀ k, (Value.slice la m.length cap).ownBlock = some k → w.heap.size ≤ k) :
    RefPost w (w6.setCell ⟨B, 0, none⟩ (.slice (some ⟨g6, 0, none⟩) (m.length + 1) cap6)) B ad (m ++ [a]) on since := by
  have hs : (w5.alloc o).drew.heap.size = w5.heap.size + 1 := by show (w5.alloc o).heap.size = _; simp
  have hO6 : Obj4 w6 B (.slice la m.length cap) on since := hO.block ((hg.block B (by rw [hs]; have := hO.lt; omega) (fun e => hn e.symm)).trans (heap_alloc_old w5 o hO.lt))
  have e : encs (m ++ [a]) = encs m ++ enc a := by simp [encs]
  have hgB : g6 ≠ B := fun h => by
    rcases hown.2 with ⟨h1, _⟩ | ⟨g', c', cur, h1, _, h3, _⟩
    · simp at h1
    · simp only [Value.slice.injEq, Option.some.injEq, Addr.mk.injEq, and_true, true_and] at h1
      obtain ⟨rfl, _⟩ := h1
      unfold Obj4 at hO6
      rw [h] at h3
      rw [h3] at hO6
      simp at hO6
  refine ⟨some ⟨g6, 0, none⟩, cap6, ?_, ?_, ?_, ?_⟩
  · have := hO6.put (.slice (some ⟨g6, 0, none⟩) (m.length + 1) cap6)
    rwa [show (m ++ [a]).length = m.length + 1 by simp]
  · rw [show (m ++ [a]).length = m.length + 1 by simp, e]
    exact ownsRow_setCell_other hown (by simpa [Value.ownBlock] using hgB) _
  · exact (((hb.alloc o).drew).grown hg (fun k e hk => absurd (hla k e) (by omega))).setCell (.inl rfl) _
  · intro k hk
    rcases hk with rfl | hk
    · exact .inl (.inl rfl)
    · have hk' : g6 = k := by simpa [Value.ownBlock] using hk
      subst hk'
      rcases hat with h | h
      · exact .inr (hla g6 h)
      · have := hb.size; exact .inr (by omega)

set_option maxHeartbeats 4000000 in
set_option maxRecDepth 1000000 in
theorem refsee_any (w : World) (B cap : Nat) (ad : Option Addr) (l : List Au) (on : Bool) (since : Int) (a : Au) (now : Int) (hO : Obj4 w B (.slice ad l.length cap) on since) (hown : w.ownsRow 0 29 4 (.slice ad l.length cap) l.length (encs l)) (hl8 : l.length ≤ 8)
    (ha : -4611686018427387904 ≤ now ∧ now ≤ 4611686018427387904) (hs : -4611686018427387904 ≤ since ∧ since ≤ 4611686018427387904) :
    Calls Try.prog 18 #[.pointer (some ⟨B, 0, none⟩), .agg #[.string a.realm, .string a.name, .int .i64 a.time, .int .i64 a.seq], .int .i64 now] w fun e w' => e = .returned (.int .i64 (seeAns l on since a now)) ∧ RefPost w w' B ad (seeList l on since a now) on since := by
  have b0 := hO.c0; have b1 := hO.c1; have b2 := hO.c2; have fB := hO.f 0
  have hB := hO.lt
  obtain ⟨a1, a2⟩ := ha
  obtain ⟨s1, s2⟩ := hs
  have HO : Aside (Obj4 w B (.slice ad l.length cap) on since) := hO
  have HW : Aside (w.ownsRow 0 29 4 (.slice ad l.length cap) l.length (encs l)) := hown
  clear hO hown
  go_enter Try.func18, Try.ntmps18
  go_upto_region 1 with (fail)
  go_cut [37] (fun v37 wc => v37 = .bool (skewed on since a now) ∧ ∃ q, wc = (w.alloc (.cells #[.string a.realm, .string a.name, .int .i64 a.time, .int .i64 a.seq] 29)).drewN q)
  case first =>
    by_cases h1 : now + 5 < a.time
    · have h1' : decide (now + 5 < a.time) = true := by simpa using h1
      have HK : Aside (skewed on since a now = true) := by show skewed on since a now = true; simp [skewed, h1]
      go_quiet (fail)
      go_wp2
      go_meet
      case rel => exact ⟨by rw [HK.out], _, rfl⟩
    · have h1' : decide (now + 5 < a.time) = false := by simpa using h1
      by_cases h2 : a.time < now - 5
      · have h2' : decide (a.time < now - 5) = true := by simpa using h2
        have HK : Aside (skewed on since a now = true) := by show skewed on since a now = true; simp [skewed, h2]
        go_quiet (fail)
        go_wp2
        go_meet
        case rel => exact ⟨by rw [HK.out], _, rfl⟩
      · have h2' : decide (a.time < now - 5) = false := by simpa using h2
        cases on with
        | false =>
          have HK : Aside (skewed false since a now = false) := by show skewed false since a now = false; simp [skewed]; omega
          go_quiet (fail)
          go_wp2
          go_meet
          case rel => exact ⟨by rw [HK.out], _, rfl⟩
        | true =>
          by_cases h3 : a.time ≤ since + 5
          · have h3' : decide (a.time ≤ since + 5) = true := by simpa using h3
            have HK : Aside (skewed true since a now = true) := by show skewed true since a now = true; simp [skewed, h3]
            go_quiet (fail)
            go_wp2
            go_meet
            case rel => exact ⟨by rw [HK.out], _, rfl⟩
          · have h3' : decide (a.time ≤ since + 5) = false := by simpa using h3
            have HK : Aside (skewed true since a now = false) := by show skewed true since a now = false; simp [skewed, h3]; omega
            go_quiet (fail)
            go_wp2
            go_meet
            case rel => exact ⟨by rw [HK.out], _, rfl⟩
  case rest =>
    obtain ⟨rfl, q, rfl⟩ := hcut
    cases hk : skewed on since a now with
    | true =>
      have HK : Aside (skewed on since a now = true) := hk
      clear hk
      go_wp2
      go_ret
      refine ⟨by unfold seeAns; rw [if_pos HK.out]; rfl, ?_⟩
      have e : seeList l on since a now = l := by unfold seeList; rw [if_pos HK.out]
      rw [e]
      exact ⟨ad, cap, HO.out.block (heap_alloc_old w _ hB), HW.out.alloc _, ((Fr.refl _ w).alloc _).drewN _, fun k hk => .inl hk⟩
    | false =>
      have HK : Aside (skewed on since a now = false) := hk
      clear hk
      obtain ⟨w2, HW2⟩ : ∃ w2, Aside (w2 = (w.alloc (.cells #[.string a.realm, .string a.name, .int .i64 a.time, .int .i64 a.seq] 29)).drewN q) := ⟨_, rfl⟩
      rw [← HW2.out]
      have HBX : Aside (w2.heap[w.heap.size]? = some (.cells #[.string a.realm, .string a.name, .int .i64 a.time, .int .i64 a.seq] 29 (0, 0))) := by
        show w2.heap[w.heap.size]? = _
        rw [HW2.out]; exact heap_alloc_new w _
      have HO2 : Aside (Obj4 w2 B (.slice ad l.length cap) on since) := HO.out.block (by rw [HW2.out]; exact heap_alloc_old w _ hB)
      have HF2 : Aside (Fr (Foot B ad) w w2) := by show Fr _ _ _; rw [HW2.out]; exact ((Fr.refl _ w).alloc _).drewN _
      have HS2 : Aside (w2.heap.size = w.heap.size + 1) := by show w2.heap.size = _; rw [HW2.out]; show (w.alloc _).heap.size = _; simp
      have HOW2 : Aside (w2.ownsRow 0 29 4 (.slice ad l.length cap) l.length (encs l)) := by show World.ownsRow _ _ _ _ _ _ _; rw [HW2.out]; exact HW.out.alloc _
      clear b0 b1 b2 fB
      have hBs2 : B < w2.heap.size := HO2.out.lt
      go_wp2
      go_loopg [7, 8] l.length (fun gg s7 s8 wr => ∃ (k : Nat) (la : Option Addr) (lc : Nat), k ≤ l.length ∧ l.length - k ≤ gg ∧ s8 = .int .i64 k ∧ s7 = .slice la ((l.take k).filter (keep now)).length lc ∧ Aside (wr.ownsRow w2.heap.size 29 4 (.slice la ((l.take k).filter (keep now)).length lc) ((l.take k).filter (keep now)).length (encs ((l.take k).filter (keep now)))) ∧ Aside (Below w2.heap.size w2 wr))
      case atStart => exact ⟨0, none, 0, by omega, by omega, rfl, rfl, World.ownsRow_nil _ _ _ _, Below.refl _ _⟩
      case round =>
        obtain ⟨k, la, lc, hk, hgg, rfl, rfl, HLA, HBL⟩ := hrel
        have HOr : Aside (Obj4 wr B (.slice ad l.length cap) on since) := HO2.out.block (HBL.out.block B hBs2)
        have b0 := HOr.out.c0
        have fB := HOr.out.f 0
        have hBr : B < wr.heap.size := HOr.out.lt
        by_cases hlt : k < l.length
        · have hltz : (k : Int) < (l.length : Int) := by omega
          rcases (owns_cases HOW2.out).2 with ⟨h1, h2, h3⟩ | ⟨g, tl, hg, _, hrow, hnc, hcm, hsz⟩
          · omega
          · have hrw : RowAt wr g l tl := hrow.below HBL.out hrow.lt
            have c0 := hrw.cell (c := 0) hlt (by omega)
            have c1 := hrw.cell (c := 1) hlt (by omega)
            have c2 := hrw.cell (c := 2) hlt (by omega)
            have c3 := hrw.cell (c := 3) hlt (by omega)
            simp only [enc, Nat.add_zero, List.getElem?_cons_zero, List.getElem?_cons_succ] at c0 c1 c2 c3
            have HFT := Lib.hid (filter_take_succ (keep now) l k hlt)
            generalize l[k]! = y at c0 c1 c2 c3 HFT
            have HROW : Aside (RowAt w2 g l tl) := hrow
            have HG : Aside (ad = some ⟨g, 0, none⟩) := hg
            subst hg
            clear hrow hrw hsz
            cases hq : keep now y with
            | true =>
              have hq' : now - 5 ≤ y.time := by unfold keep at hq; simp at hq; omega
              obtain ⟨i0, hi, hz0, hz1, hz2⟩ := info_parts Try.info29
              have hml : ((l.take k).filter (keep now)).length ≤ 8 := Nat.le_trans (List.length_filter_le _ _) (by rw [List.length_take]; omega)
              have hsz : w2.heap.size ≤ wr.heap.size := HBL.out.size
              have HFQ := Lib.hid (HFT.out.trans (by rw [hq, if_pos rfl]))
              clear HFT
              generalize hm : (l.take k).filter (keep now) = m at HLA hml HFQ ⊢
              go_wp2_with (at_builtin; refine wpList_append_lies _ rfl (.tmp 58) (.tmp 66) 42 rfl w2.heap.size 29 i0 (.agg #[.string ⟨#[]⟩, .string ⟨#[]⟩, .int .i64 0, .int .i64 0]) 4 48 Try.underlying42 hi hz0 hz1 hz2 rfl (by decide) (.slice la m.length lc) m.length (encs m) rfl (HLA.out.alloc _) ⟨wr.heap.size, 0, none⟩ 1 1 (enc y) rfl rfl (by exact World.news_of_block (cs := (enc y).toArray) (t := 29) (fr := (0, 0)) (heap_alloc_new _ _)) (enc_one y) (by omega) (by unfold maxLen; omega) (by omega) (by simp; omega) _ rfl ?_; intro g6 cap6 w6 hown6 hgrow6 hat6 hlt6)
              go_roundg (l.length - (k + 1))
              case measure => omega
              case rel =>
                have e := HFQ.out
                have el : ((l.take (k + 1)).filter (keep now)).length = m.length + 1 := by rw [e]; simp
                refine ⟨k + 1, some ⟨g6, 0, none⟩, cap6, by omega, by omega, by go_num, by rw [el], ?_, ?_⟩
                · rw [el, e, show encs (m ++ [y]) = encs m ++ enc y by simp [encs]]; exact hown6
                · exact (HBL.out.alloc hsz _).grown hgrow6 (by simp; omega) (fun k e => (HLA.out.lt k e).1)
            | false =>
              have hq' : ¬ now - 5 ≤ y.time := by unfold keep at hq; simp at hq; omega
              go_wp2
              go_roundg (l.length - (k + 1))
              case measure => omega
              case rel =>
                have e := HFT.out
                rw [hq, if_neg (by decide), List.append_nil] at e
                refine ⟨k + 1, la, lc, by omega, by omega, by go_num, by rw [e], ?_, HBL⟩
                rw [e]; exact HLA
        · obtain rfl : k = l.length := by omega
          have hltz : ¬ (l.length : Int) < (l.length : Int) := by omega
          rw [List.take_length] at HLA ⊢
          have hml : (l.filter (keep now)).length ≤ 8 := Nat.le_trans (List.length_filter_le _ _) hl8
          obtain ⟨m, HM⟩ : ∃ m, Aside (l.filter (keep now) = m) := ⟨_, rfl⟩
          rw [HM.out] at HLA hml ⊢
          have hlaB : (Value.slice la m.length lc).ownBlock ≠ some B := fun e => by have := (HLA.out.lt B e).1; omega
          have HO3 : Aside (Obj4 (wr.setCell ⟨B, 0, none⟩ (.slice la m.length lc)) B (.slice la m.length lc) on since) := HOr.out.put _
          have HBX3 : Aside ((wr.setCell ⟨B, 0, none⟩ (.slice la m.length lc)).heap[w.heap.size]? = some (.cells #[.string a.realm, .string a.name, .int .i64 a.time, .int .i64 a.seq] 29 (0, 0))) := by
            show (wr.setCell ⟨B, 0, none⟩ (.slice la m.length lc)).heap[w.heap.size]? = _
            rw [heap_setCell_other wr ⟨B, 0, none⟩ w.heap.size _ (by show w.heap.size ≠ B; omega), HBL.out.block _ (by rw [HS2.out]; omega)]; exact HBX.out
          have HF3 : Aside (Fr (Foot B ad) w (wr.setCell ⟨B, 0, none⟩ (.slice la m.length lc))) := (HF2.out.below HBL.out).setCell (.inl rfl) _
          have HW3 : Aside ((wr.setCell ⟨B, 0, none⟩ (.slice la m.length lc)).ownsRow w2.heap.size 29 4 (.slice la m.length lc) m.length (encs m)) := ownsRow_setCell_other HLA.out hlaB _
          have HLB : Aside ((Value.slice la m.length lc).ownBlock ≠ some B) := hlaB
          clear hlaB
          go_wp2
          generalize hw3 : wr.setCell ⟨B, 0, none⟩ (.slice la m.length lc) = w3 at HO3 HBX3 HF3 HW3 ⊢
          clear hw3
          go_loopg [9] m.length (fun gg s9 wq => ∃ j : Nat, j ≤ m.length ∧ m.length - j ≤ gg ∧ s9 = .int .i64 j ∧ Aside (∀ i, i < j → same m[i]! a = false) ∧ Aside (∃ q, wq = w3.drewN q))
          case atStart => exact ⟨0, by omega, by omega, rfl, fun i hi => absurd hi (Nat.not_lt_zero _), ⟨0, rfl⟩⟩
          case round =>
            obtain ⟨j, hj, hgg2, rfl, HA, HQ⟩ := hrel
            have hcell : ∀ p, wr.cell? p = w3.cell? p := fun p => by obtain ⟨q, hq⟩ := HQ.out; rw [hq, World.cell?_drewN]
            have HO5 : Aside (Obj4 wr B (.slice la m.length lc) on since) := HO3.out.block (by obtain ⟨q, hq⟩ := HQ.out; rw [hq]; rfl)
            have HBX5 : Aside (wr.heap[w.heap.size]? = some (.cells #[.string a.realm, .string a.name, .int .i64 a.time, .int .i64 a.seq] 29 (0, 0))) := by
              show wr.heap[w.heap.size]? = _
              obtain ⟨q, hq⟩ := HQ.out; rw [hq]; exact HBX3.out
            have HF5 : Aside (Fr (Foot B ad) w wr) := by
              show Fr _ _ _
              obtain ⟨q, hq⟩ := HQ.out; rw [hq]; exact HF3.out.drewN _
            have HW5 : Aside (wr.ownsRow w2.heap.size 29 4 (.slice la m.length lc) m.length (encs m)) := by
              show World.ownsRow _ _ _ _ _ _ _
              obtain ⟨q, hq⟩ := HQ.out; rw [hq]; exact HW3.out
            have HLF : Aside (∀ k, Foot B la k → Foot B ad k ∨ w.heap.size ≤ k) := fun k hk => by
              rcases hk with rfl | hk
              · exact .inl (.inl rfl)
              · have := (HW5.out.lt k (by rw [own_block la m.length lc 0 0]; exact hk)).1
                exact .inr (by have := HS2.out; omega)
            have HOW5 : Aside (wr.ownsRow 0 29 4 (.slice la m.length lc) m.length (encs m)) := by
              refine ⟨HW5.out.1, ?_⟩
              rcases HW5.out.2 with h | ⟨g, c, cur, h1, _, h2⟩
              · exact .inl h
              · exact .inr ⟨g, c, cur, h1, Nat.zero_le _, h2⟩
            clear hcell
            by_cases hlt : j < m.length
            · have hltz : (j : Int) < (m.length : Int) := by omega
              rcases (owns_cases HW5.out).2 with ⟨h1, h2, h3⟩ | ⟨g, tl, hg, _, hrow, hnc, hcm, hsz⟩
              · omega
              · have c0 := hrow.cell (c := 0) hlt (by omega)
                have c1 := hrow.cell (c := 1) hlt (by omega)
                have c2 := hrow.cell (c := 2) hlt (by omega)
                have c3 := hrow.cell (c := 3) hlt (by omega)
                simp only [enc, Nat.add_zero, List.getElem?_cons_zero, List.getElem?_cons_succ] at c0 c1 c2 c3
                have x0 : wr.cell? ⟨w.heap.size, 0, none⟩ = some (.string a.realm) := by have := HBX5.out; simp [World.cell?, this]
                have x1 : wr.cell? ⟨w.heap.size, 1, none⟩ = some (.string a.name) := by have := HBX5.out; simp [World.cell?, this]
                have x2 : wr.cell? ⟨w.heap.size, 2, none⟩ = some (.int .i64 a.time) := by have := HBX5.out; simp [World.cell?, this]
                have x3 : wr.cell? ⟨w.heap.size, 3, none⟩ = some (.int .i64 a.seq) := by have := HBX5.out; simp [World.cell?, this]
                obtain ⟨y, HY⟩ : ∃ y, Aside (m[j]! = y) := ⟨_, rfl⟩
                rw [HY.out] at c0 c1 c2 c3
                have hgd := fun (op : BinOp) (p q : Operand) (w : World) => eqAu.2 op p q y a w
                have hev := fun (w : World) => eqAu.1 y a w
                simp only [enc] at hgd hev
                subst hg
                clear hrow hsz
                cases hq : same y a with
                | true =>
                  rw [hq] at hev
                  have HH : Aside (same y a = true) := hq
                  clear hq
                  go_wp2_with fail
                  go_quiet (fail)
                  go_wp2
                  go_ret
                  have hany : m.any (same a) = true := by
                    rw [List.any_eq_true]
                    refine ⟨m[j]!, by rw [getElem!_pos m j hlt]; exact List.getElem_mem hlt, ?_⟩
                    rw [HY.out, same_iff]; exact ((same_iff y a).1 HH.out).symm
                  refine ⟨by unfold seeAns; rw [if_neg (by rw [HK.out]; decide), HM.out, if_pos hany]; rfl, ?_⟩
                  have e : seeList l on since a now = m := by unfold seeList; rw [if_neg (by rw [HK.out]; decide), HM.out, if_pos hany]
                  rw [e]
                  exact ⟨_, lc, HO5.out, HOW5.out, HF5.out.drewN _, HLF.out⟩
                | false =>
                  rw [hq] at hev
                  have HH : Aside (same y a = false) := hq
                  clear hq
                  go_wp2_with fail
                  go_quiet (fail)
                  go_wp2
                  go_roundg (m.length - (j + 1))
                  case measure => omega
                  case rel =>
                    refine ⟨j + 1, by omega, by omega, by go_num, (show Aside _ from fun i hi => ?_), ?_⟩
                    · by_cases e : i = j
                      · subst e; rw [HY.out]; exact HH.out
                      · exact HA.out i (by omega)
                    · obtain ⟨q, hq⟩ := HQ.out
                      exact ⟨q + nq, by rw [hq, World.drewN_drewN]⟩
            · obtain rfl : j = m.length := by omega
              have hltz : ¬ (m.length : Int) < (m.length : Int) := by omega
              have HAN : Aside (m.any (same a) = false) := by
                show m.any (same a) = false
                rw [List.any_eq_false]
                intro x hx
                obtain ⟨i, hi, rfl⟩ := List.mem_iff_getElem.1 hx
                have := HA.out i hi
                rw [getElem!_pos m i hi] at this
                intro h
                rw [(same_iff a m[i]).1 h] at this
                rw [same_self] at this
                cases this
              by_cases h8 : 8 ≤ m.length
              · have h8z : (8 : Int) ≤ (m.length : Int) := by omega
                go_wp2
                go_ret
                refine ⟨by unfold seeAns; rw [if_neg (by rw [HK.out]; decide), HM.out, if_neg (by rw [HAN.out]; decide), if_pos h8]; rfl, ?_⟩
                have e : seeList l on since a now = m := by unfold seeList; rw [if_neg (by rw [HK.out]; decide), HM.out, if_neg (by rw [HAN.out]; decide), if_pos h8]
                rw [e]
                exact ⟨_, lc, HO5.out, HOW5.out, HF5.out, HLF.out⟩
              · have h8z : ¬ (8 : Int) ≤ (m.length : Int) := by omega
                have x0 : wr.cell? ⟨w.heap.size, 0, none⟩ = some (.string a.realm) := by have := HBX5.out; simp [World.cell?, this]
                have x1 : wr.cell? ⟨w.heap.size, 1, none⟩ = some (.string a.name) := by have := HBX5.out; simp [World.cell?, this]
                have x2 : wr.cell? ⟨w.heap.size, 2, none⟩ = some (.int .i64 a.time) := by have := HBX5.out; simp [World.cell?, this]
                have x3 : wr.cell? ⟨w.heap.size, 3, none⟩ = some (.int .i64 a.seq) := by have := HBX5.out; simp [World.cell?, this]
                have y0 := HO5.out.c0
                have z0 := HO5.out.f 0
                have hB5 : B < wr.heap.size := HO5.out.lt
                have hs5 : w.heap.size < wr.heap.size := lt_of_block HBX5.out
                obtain ⟨i0, hi, hz0, hz1, hz2⟩ := info_parts Try.info29
                go_wp2
                go_region_law (refine step_append_lies _ rfl (.tmp 91) (.tmp 93) 42 rfl 0 29 i0 (.agg #[.string ⟨#[]⟩, .string ⟨#[]⟩, .int .i64 0, .int .i64 0]) 4 48 Try.underlying42 hi hz0 hz1 hz2 rfl (by decide) (.slice la m.length lc) m.length (encs m) (by simp [Act.eval, Act.put]) (HOW5.out.alloc _) ⟨wr.heap.size, 0, none⟩ 1 1 (enc a) (by simp [Act.eval, Act.put]) rfl (by exact World.news_of_block (cs := (enc a).toArray) (t := 29) (fr := (0, 0)) (heap_alloc_new _ _)) (enc_one a) (by omega) (by unfold maxLen; omega) (by omega) (Nat.zero_le _) _ rfl ?_; intro g6 cap6 w6 hown6 hgrow6 hat6 hlt6; have y6 : w6.cell? ⟨B, 0, none⟩ = some (.slice la m.length lc) := (hgrow6.cell_far ⟨B, 0, none⟩ (by simp; omega) (fun e => HLB.out e.symm)).trans (by simp [World.cell?_drew, y0, World.cell?_alloc_past _ _ _ hB5]); have z6 : w6.frozen? ⟨B, 0, none⟩ = false := (hgrow6.frozen_far ⟨B, 0, none⟩ (by simp; omega) (fun e => HLB.out e.symm)).trans (by simp [World.frozen?_drew, z0, World.frozen?_alloc_past _ _ _ hB5]))
                all_goals
                  clear x0 x1 x2 x3 y0 z0 y6 z6 hi hz0 hz1 hz2
                  have hend := ref_end HO5.out HF5.out HLB.out HLF.out hown6 hgrow6 hat6 (fun k e => by have := (HW5.out.lt k e).1; rw [HS2.out] at this; omega)
                  clear hown6 hgrow6 hat6 hlt6
                  go_wp2
                  go_ret
                  refine ⟨by unfold seeAns; rw [if_neg (by rw [HK.out]; decide), HM.out, if_neg (by rw [HAN.out]; decide), if_neg h8]; rfl, ?_⟩
                  have e : seeList l on since a now = m ++ [a] := by unfold seeList; rw [if_neg (by rw [HK.out]; decide), HM.out, if_neg (by rw [HAN.out]; decide), if_neg h8]
                  rw [e]
                  exact hend

end Go.Proofs.Ytjikekfjhfcdpaa
