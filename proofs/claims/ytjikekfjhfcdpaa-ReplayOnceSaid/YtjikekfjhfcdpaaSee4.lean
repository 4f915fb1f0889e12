/-
  replay.See with what it leaves untouched: only its own block and row are written.
-/
import Derived.Test.YtjikekfjhfcdpaaSee3
import Derived.Lib.Hide
set_option linter.unusedVariables false
set_option linter.unusedSimpArgs false
namespace Go.Proofs.Ytjikekfjhfcdpaa
open Go Go.RowKit Go.Lib Go.Shelf

/-- The blocks that a Replay has. -/
def Foot (B : Nat) (ad : Option Addr) (k : Nat) : Prop := k = B ∨ (Value.slice ad 0 0).ownBlock = some k

/-- Of the blocks that were there those outside F are as they were. -/
structure Fr (F : Nat → Prop) (w w' : World) : Prop where
  os : w'.os = w.os
  tape : w'.tape = w.tape
  output : w'.output = w.output
  size : w.heap.size ≤ w'.heap.size
  block : ∀ k, k < w.heap.size → ¬ F k → w'.heap[k]? = w.heap[k]?

theorem Fr.refl (F : Nat → Prop) (w : World) : Fr F w w := ⟨rfl, rfl, rfl, Nat.le_refl _, fun _ _ _ => rfl⟩
theorem Fr.below {F : Nat → Prop} {a w w' : World} (h : Fr F a w) (hb : Below w.heap.size w w') : Fr F a w' :=
  ⟨hb.os.trans h.os, hb.tape.trans h.tape, hb.output.trans h.output, Nat.le_trans h.size hb.size, fun k hk hn => (hb.block k (Nat.lt_of_lt_of_le hk h.size)).trans (h.block k hk hn)⟩
theorem Fr.alloc {F : Nat → Prop} {a w : World} (h : Fr F a w) (o : Obj) : Fr F a (w.alloc o) := h.below ((Below.refl _ _).alloc (Nat.le_refl _) o)
theorem Fr.drew {F : Nat → Prop} {a w : World} (h : Fr F a w) : Fr F a w.drew := ⟨h.os, h.tape, h.output, h.size, h.block⟩
theorem Fr.drewN {F : Nat → Prop} {a w : World} (h : Fr F a w) (n : Nat) : Fr F a (w.drewN n) := ⟨h.os, h.tape, h.output, h.size, h.block⟩
theorem Fr.setCell {F : Nat → Prop} {a w : World} (h : Fr F a w) {p : Addr} (hp : F p.block) (u : Value) : Fr F a (w.setCell p u) :=
  ⟨h.os, h.tape, h.output, by simpa [World.setCell] using h.size, fun k hk hn => (Below.heap_setCell _ _ _ _ (fun e => hn (by rw [e]; exact hp))).trans (h.block k hk hn)⟩
theorem Fr.grown {F : Nat → Prop} {a w w' : World} {row : Option Nat} (h : Fr F a w) (hg : w.grownBy w' row) (hr : ∀ k, row = some k → k < a.heap.size → F k) : Fr F a w' :=
  ⟨hg.os.trans h.os, hg.tape.trans h.tape, hg.output.trans h.output, Nat.le_trans h.size hg.size, fun k hk hn => (hg.block k (Nat.lt_of_lt_of_le hk h.size) (fun e => hn (hr k e.symm hk))).trans (h.block k hk hn)⟩
theorem Fr.mono {F G : Nat → Prop} {a w : World} (h : Fr F a w) (hm : ∀ k, k < a.heap.size → F k → G k) : Fr G a w := ⟨h.os, h.tape, h.output, h.size, fun k hk hn => h.block k hk (fun e => hn (hm k hk e))⟩
theorem Fr.trans {F : Nat → Prop} {a b c : World} (h : Fr F a b) (k : Fr F b c) : Fr F a c :=
  ⟨k.os.trans h.os, k.tape.trans h.tape, k.output.trans h.output, Nat.le_trans h.size k.size, fun i hi hn => (k.block i (Nat.lt_of_lt_of_le hi h.size) hn).trans (h.block i hi hn)⟩

/-- What See leaves. -/
def SeePost2 (w w' : World) (B : Nat) (ad : Option Addr) (l : List Au) (on : Bool) (since : Int) : Prop :=
  ∃ ad' cap', Obj3 w' B (.slice ad' l.length cap') on since ∧ w'.ownsRow 0 29 4 (.slice ad' l.length cap') l.length (encs l) ∧ Fr (Foot B ad) w w' ∧ ∀ k, Foot B ad' k → Foot B ad k ∨ w.heap.size ≤ k

theorem own_block (ad : Option Addr) (n c n' c' : Nat) : (Value.slice ad n c).ownBlock = (Value.slice ad n' c').ownBlock := by cases ad <;> rfl

/-- Behind the append, and the store of the new row. -/
theorem see_end2 {w w5 w6 : World} {B g6 cap6 : Nat} {ad : Option Addr} {cap : Nat} {m : List Au} {a : Au} {on : Bool} {since : Int} {o : Obj}
    (hB : B < w.heap.size) (hO : Obj3 w5 B (.slice ad m.length cap) on since) (hb : Fr (Foot B ad) w w5) (hn : (Value.slice ad m.length cap).ownBlock ≠ some B)
    (hown : w6.ownsRow 0 29 4 (.slice (some ⟨g6, 0, none⟩) (m.length + 1) cap6) (m.length + 1) (encs m ++ enc a)) (hg : (w5.alloc o).drew.grownBy w6 (Value.slice ad m.length cap).ownBlock)
    (hat : (Value.slice ad m.length cap).ownBlock = some g6 ∨ g6 = (w5.alloc o).drew.heap.size) :
    SeePost2 w (w6.setCell ⟨B, 0, none⟩ (.slice (some ⟨g6, 0, none⟩) (m.length + 1) cap6)) B ad (m ++ [a]) on since := by
  have hs : (w5.alloc o).drew.heap.size = w5.heap.size + 1 := by show (w5.alloc o).heap.size = _; simp
  have hO6 : Obj3 w6 B (.slice ad m.length cap) on since := hO.block ((hg.block B (by rw [hs]; have := hO.lt; omega) (fun e => hn e.symm)).trans (heap_alloc_old w5 o hO.lt))
  have e : encs (m ++ [a]) = encs m ++ enc a := by simp [encs]
  have hgB : g6 ≠ B := fun h => by
    rcases hown.2 with ⟨h1, _⟩ | ⟨g', c', cur, h1, _, h3, _⟩
    · simp at h1
    · simp only [Value.slice.injEq, Option.some.injEq, Addr.mk.injEq, and_true, true_and] at h1
      obtain ⟨rfl, _⟩ := h1
      unfold Obj3 at hO6
      rw [h] at h3
      rw [h3] at hO6
      simp at hO6
  refine ⟨some ⟨g6, 0, none⟩, cap6, ?_, ?_, ?_, ?_⟩
  · have := hO6.put (.slice (some ⟨g6, 0, none⟩) (m.length + 1) cap6)
    rwa [show (m ++ [a]).length = m.length + 1 by simp]
  · rw [show (m ++ [a]).length = m.length + 1 by simp, e]
    exact ownsRow_setCell_other hown (by simpa [Value.ownBlock] using hgB) _
  · exact (((hb.alloc o).drew).grown hg (fun k e _ => .inr (by rw [← e]; exact own_block _ _ _ _ _))).setCell (.inl rfl) _
  · intro k hk
    rcases hk with rfl | hk
    · exact .inl (.inl rfl)
    · have hk' : g6 = k := by simpa [Value.ownBlock] using hk
      subst hk'
      rcases hat with h | h
      · exact .inl (.inr (by rw [own_block ad 0 0 m.length cap]; exact h))
      · have := hb.size; exact .inr (by omega)

set_option maxHeartbeats 4000000 in
theorem see_frame (w : World) (B cap : Nat) (ad : Option Addr) (l : List Au) (on : Bool) (since : Int) (a : Au) (now : Int) (hO : Obj3 w B (.slice ad l.length cap) on since) (hown : w.ownsRow 0 29 4 (.slice ad l.length cap) l.length (encs l)) (hl8 : l.length ≤ 8)
    (ha : -4611686018427387904 ≤ now ∧ now ≤ 4611686018427387904) (hs : -4611686018427387904 ≤ since ∧ since ≤ 4611686018427387904) :
    Calls Try.prog 11 #[.pointer (some ⟨B, 0, none⟩), .agg #[.string a.realm, .string a.name, .int .i64 a.time, .int .i64 a.seq], .int .i64 now] w fun e w' => e = .returned (.int .i64 (seeAns l on since a now)) ∧ SeePost2 w w' B ad (seeList l on since a now) on since := by
  have b0 := hO.c0; have b1 := hO.c1; have b2 := hO.c2; have fB := hO.f 0
  have hB := hO.lt
  obtain ⟨a1, a2⟩ := ha
  obtain ⟨s1, s2⟩ := hs
  have HO : Aside (Obj3 w B (.slice ad l.length cap) on since) := hO
  have HW : Aside (w.ownsRow 0 29 4 (.slice ad l.length cap) l.length (encs l)) := hown
  clear hO hown
  go_enter Try.func11, Try.ntmps11
  go_upto_region 3 with (fail)
  go_cut [10] (fun v10 wc => v10 = .bool (skewed on since a now) ∧ ∃ q, wc = ((w.alloc (.cells #[.string a.realm, .string a.name, .int .i64 a.time, .int .i64 a.seq] 29)).alloc (.cells #[.int .i64 now] 3)).drewN q)
  case first =>
    by_cases h1 : now + 5 < a.time
    · have h1' : decide (now + 5 < a.time) = true := by simpa using h1
      have HK : Aside (skewed on since a now = true) := by show skewed on since a now = true; simp [skewed, h1]
      go_quiet (fail)
      go_wp2
      go_meet
      case rel => exact ⟨by rw [HK.out], _, rfl⟩
    · have h1' : decide (now + 5 < a.time) = false := by simpa using h1
      by_cases h2 : a.time < now - 5
      · have h2' : decide (a.time < now - 5) = true := by simpa using h2
        have HK : Aside (skewed on since a now = true) := by show skewed on since a now = true; simp [skewed, h2]
        go_quiet (fail)
        go_wp2
        go_meet
        case rel => exact ⟨by rw [HK.out], _, rfl⟩
      · have h2' : decide (a.time < now - 5) = false := by simpa using h2
        cases on with
        | false =>
          have HK : Aside (skewed false since a now = false) := by show skewed false since a now = false; simp [skewed]; omega
          go_quiet (fail)
          go_wp2
          go_meet
          case rel => exact ⟨by rw [HK.out], _, rfl⟩
        | true =>
          by_cases h3 : a.time ≤ since + 5
          · have h3' : decide (a.time ≤ since + 5) = true := by simpa using h3
            have HK : Aside (skewed true since a now = true) := by show skewed true since a now = true; simp [skewed, h3]
            go_quiet (fail)
            go_wp2
            go_meet
            case rel => exact ⟨by rw [HK.out], _, rfl⟩
          · have h3' : decide (a.time ≤ since + 5) = false := by simpa using h3
            have HK : Aside (skewed true since a now = false) := by show skewed true since a now = false; simp [skewed, h3]; omega
            go_quiet (fail)
            go_wp2
            go_meet
            case rel => exact ⟨by rw [HK.out], _, rfl⟩
  case rest =>
    obtain ⟨rfl, q, rfl⟩ := hcut
    cases hk : skewed on since a now with
    | true =>
      have HK : Aside (skewed on since a now = true) := hk
      clear hk
      go_wp2
      go_ret
      refine ⟨by unfold seeAns; rw [if_pos HK.out]; rfl, ?_⟩
      have e : seeList l on since a now = l := by unfold seeList; rw [if_pos HK.out]
      rw [e]
      exact ⟨ad, cap, HO.out.block (heap_two_old w _ _ hB), (HW.out.alloc _).alloc _, (((Fr.refl _ w).alloc _).alloc _).drewN _, fun k hk => .inl hk⟩
    | false =>
      have HK : Aside (skewed on since a now = false) := hk
      clear hk
      obtain ⟨w2, HW2⟩ : ∃ w2, Aside (w2 = ((w.alloc (.cells #[.string a.realm, .string a.name, .int .i64 a.time, .int .i64 a.seq] 29)).alloc (.cells #[.int .i64 now] 3)).drewN q) := ⟨_, rfl⟩
      rw [← HW2.out]
      have hgl : ∀ g, ad = some ⟨g, 0, none⟩ → g < w.heap.size := fun g e => (HW.out.lt g (by rw [e]; rfl)).2
      have hgB : ∀ g, ad = some ⟨g, 0, none⟩ → g ≠ B := fun g e h => by
        rcases (owns_cases HW.out).2 with ⟨h1, _⟩ | ⟨g', tl, h1, _, hr, _⟩
        · rw [h1] at e; cases e
        · rw [h1] at e
          simp at e
          subst e
          unfold RowAt at hr
          have := HO.out
          unfold Obj3 at this
          rw [← h, hr] at this
          simp at this
      have hdel := delete_own w2 0 (w.heap.size + 1) l.length cap ad now ⟨a1, a2⟩ (by rw [HW2.out, World.cell?_drewN]; simp [World.cell?_alloc_at]) l (by rw [HW2.out]; exact (HW.out.alloc _).alloc _) (fun g e h => by have := hgl g e; omega) (by omega)
      have HBX : Aside (w2.heap[w.heap.size]? = some (.cells #[.string a.realm, .string a.name, .int .i64 a.time, .int .i64 a.seq] 29 (0, 0))) := by
        show w2.heap[w.heap.size]? = _
        rw [HW2.out]; show ((w.alloc _).alloc _).heap[w.heap.size]? = _
        rw [heap_alloc_old _ _ (by simp), heap_alloc_new]
      have HO2 : Aside (Obj3 w2 B (.slice ad l.length cap) on since) := HO.out.block (by rw [HW2.out]; exact heap_two_old w _ _ hB)
      have hB2 : Fr (Foot B ad) w w2 := by rw [HW2.out]; exact (((Fr.refl _ w).alloc _).alloc _).drewN _
      have HB2 : Aside (Fr (Foot B ad) w w2) := hB2
      have hs2 : w2.heap.size = w.heap.size + 2 := by rw [HW2.out]; show ((w.alloc _).alloc _).heap.size = _; simp
      have HS2 : Aside (w2.heap.size = w.heap.size + 2) := hs2
      have HGL : Aside (∀ g, ad = some ⟨g, 0, none⟩ → g < w.heap.size) := hgl
      have HGB : Aside (∀ g, ad = some ⟨g, 0, none⟩ → g ≠ B) := hgB
      have hc0 := HO2.out.c0
      have hcf := HO2.out.f 0
      clear hB2 hs2 hgl hgB b0 b1 b2 fB
      have hml : (l.filter (keep now)).length ≤ 8 := Nat.le_trans (List.length_filter_le _ _) hl8
      obtain ⟨m, HM⟩ : ∃ m, Aside (l.filter (keep now) = m) := ⟨_, rfl⟩
      rw [HM.out] at hdel hml
      go_wp2_with fail
      refine hdel.mono ?_
      rintro e w1 ⟨rfl, hown1, hg1⟩
      have hgr : ∀ b, b < w2.heap.size → (∀ g, ad = some ⟨g, 0, none⟩ → g ≠ b) → w1.heap[b]? = w2.heap[b]? := fun b hb h => hg1.block b hb (by
        cases ad with
        | none => simp [Value.ownBlock]
        | some x =>
          rcases (owns_cases HW.out).2 with ⟨h1, _⟩ | ⟨g', tl, h1, _, hr, _⟩
          · cases h1
          · cases h1
            simp only [Value.ownBlock, ne_eq, Option.some.injEq]
            exact fun e => h g' rfl e.symm)
      have HO1 : Aside (Obj3 w1 B (.slice ad l.length cap) on since) := HO2.out.block (hgr B (by rw [HS2.out]; omega) HGB.out)
      have HBX1 : Aside (w1.heap[w.heap.size]? = some (.cells #[.string a.realm, .string a.name, .int .i64 a.time, .int .i64 a.seq] 29 (0, 0))) := (hgr _ (by rw [HS2.out]; omega) (fun g e h => by have := HGL.out g e; omega)).trans HBX.out
      have hnB : (Value.slice ad m.length cap).ownBlock ≠ some B := by
        cases ad with
        | none => simp [Value.ownBlock]
        | some x =>
          rcases (owns_cases HW.out).2 with ⟨h1, _⟩ | ⟨g', tl, h1, _, hr, _⟩
          · cases h1
          · cases h1
            simpa [Value.ownBlock] using HGB.out g' rfl
      have HB1 : Aside (Fr (Foot B ad) w w1) := HB2.out.grown hg1 (fun k e _ => .inr (by rw [← e]; exact own_block _ _ _ _ _))
      have HW1 : Aside ((w1.setCell ⟨B, 0, none⟩ (.slice ad m.length cap)).ownsRow 0 29 4 (.slice ad m.length cap) m.length (encs m)) := ownsRow_setCell_other hown1 hnB _
      have HS1 : Aside (w.heap.size + 2 ≤ w1.heap.size) := by have := hg1.size; rw [HS2.out] at this; exact this
      have hc1 := HO1.out.c0
      have hcf1 := HO1.out.f 0
      have hB1 : B < w1.heap.size := HO1.out.lt
      have hne1 : B ≠ w.heap.size := by omega
      have HNB : Aside ((Value.slice ad m.length cap).ownBlock ≠ some B) := hnB
      clear hgr hg1 hown1 hc0 hcf hnB hdel
      go_wp2_with fail
      have HO3 : Aside (Obj3 (w1.setCell ⟨B, 0, none⟩ (.slice ad m.length cap)) B (.slice ad m.length cap) on since) := HO1.out.put _
      have HBX3 : Aside ((w1.setCell ⟨B, 0, none⟩ (.slice ad m.length cap)).heap[w.heap.size]? = some (.cells #[.string a.realm, .string a.name, .int .i64 a.time, .int .i64 a.seq] 29 (0, 0))) := by
        show (w1.setCell ⟨B, 0, none⟩ (.slice ad m.length cap)).heap[w.heap.size]? = _
        rw [heap_setCell_other w1 ⟨B, 0, none⟩ w.heap.size _ (fun e => hne1 e.symm)]; exact HBX1.out
      have HB3 : Aside (Fr (Foot B ad) w (w1.setCell ⟨B, 0, none⟩ (.slice ad m.length cap))) := HB1.out.setCell (.inl rfl) _
      have HS3 : Aside (w.heap.size + 2 ≤ (w1.setCell ⟨B, 0, none⟩ (.slice ad m.length cap)).heap.size) := by show _ ≤ _; have := HS1.out; simpa [World.setCell] using this
      clear hc1 hcf1 hB1
      generalize w1.setCell ⟨B, 0, none⟩ (.slice ad m.length cap) = w3 at HO3 HBX3 HB3 HS3 HW1 ⊢
      have x0 : w3.cell? ⟨w.heap.size, 0, none⟩ = some (.string a.realm) := by have := HBX3.out; simp [World.cell?, this]
      have x1 : w3.cell? ⟨w.heap.size, 1, none⟩ = some (.string a.name) := by have := HBX3.out; simp [World.cell?, this]
      have x2 : w3.cell? ⟨w.heap.size, 2, none⟩ = some (.int .i64 a.time) := by have := HBX3.out; simp [World.cell?, this]
      have x3 : w3.cell? ⟨w.heap.size, 3, none⟩ = some (.int .i64 a.seq) := by have := HBX3.out; simp [World.cell?, this]
      have y0 := HO3.out.c0
      have hB3 : B < w3.heap.size := HO3.out.lt
      go_still_tail 5, (by kernel_rfl)
      change wpList _ _ _ _ _ w3.drew
      have HO4 : Aside (Obj3 w3.drew B (.slice ad m.length cap) on since) := HO3
      have HBX4 : Aside (w3.drew.heap[w.heap.size]? = some (.cells #[.string a.realm, .string a.name, .int .i64 a.time, .int .i64 a.seq] 29 (0, 0))) := HBX3
      have HB4 : Aside (Fr (Foot B ad) w w3.drew) := HB3.out.drew
      have HS4 : Aside (w.heap.size + 2 ≤ w3.drew.heap.size) := HS3
      have HW4 : Aside (w3.drew.ownsRow 0 29 4 (.slice ad m.length cap) m.length (encs m)) := HW1
      clear HO3 HBX3 HB3 HS3 HW1 x0 x1 x2 x3 y0 hB3
      generalize w3.drew = w4 at HO4 HBX4 HB4 HS4 HW4 ⊢
      have hcon := contains_own w4 0 m.length cap ad m a HW4.out (by omega)
      have hB4 : B < w4.heap.size := HO4.out.lt
      -- behind the search
      have hstep : ∀ w5, Below w4.heap.size w4 w5 → Aside (Obj3 w5 B (.slice ad m.length cap) on since) ∧ Aside (w5.heap[w.heap.size]? = some (.cells #[.string a.realm, .string a.name, .int .i64 a.time, .int .i64 a.seq] 29 (0, 0))) ∧ Aside (Fr (Foot B ad) w w5) ∧ Aside (w5.ownsRow 0 29 4 (.slice ad m.length cap) m.length (encs m)) := fun w5 hb =>
        ⟨HO4.out.block (hb.block B hB4), (hb.block _ (by have := HS4.out; omega)).trans HBX4.out, HB4.out.below hb, HW4.out.kept (grownBy_below hb none) (by cases (Value.slice ad m.length cap).ownBlock <;> simp)⟩
      have HST : Aside _ := hstep
      clear hstep
      cases hd : m.any (same a) with
      | true =>
        rw [hd] at hcon
        have HDU : Aside (m.any (same a) = true) := hd
        clear hd
        go_wp2_with (go_at_call 21; refine hcon.mono ?_; rintro e w5 ⟨rfl, hb5⟩)
        go_ret
        have h5 := HST.out w5 hb5
        refine ⟨by unfold seeAns; rw [if_neg (by rw [HK.out]; decide), HM.out, if_pos HDU.out]; rfl, ?_⟩
        have e : seeList l on since a now = m := by unfold seeList; rw [if_neg (by rw [HK.out]; decide), HM.out, if_pos HDU.out]
        rw [e]
        exact ⟨ad, cap, h5.1.out, h5.2.2.2.out, h5.2.2.1.out, fun k hk => .inl hk⟩
      | false =>
        rw [hd] at hcon
        have HDU : Aside (m.any (same a) = false) := hd
        clear hd
        by_cases h8 : 8 ≤ m.length
        · have h8z : (8 : Int) ≤ (m.length : Int) := by omega
          go_wp2_with (go_at_call 21; refine hcon.mono ?_; rintro e w5 ⟨rfl, hb5⟩; have h5 := HST.out w5 hb5; have hc5 := h5.1.out.c0)
          go_ret
          have h5 := HST.out w5 hb5
          refine ⟨by unfold seeAns; rw [if_neg (by rw [HK.out]; decide), HM.out, if_neg (by rw [HDU.out]; decide), if_pos h8]; rfl, ?_⟩
          have e : seeList l on since a now = m := by unfold seeList; rw [if_neg (by rw [HK.out]; decide), HM.out, if_neg (by rw [HDU.out]; decide), if_pos h8]
          rw [e]
          exact ⟨ad, cap, h5.1.out, h5.2.2.2.out, h5.2.2.1.out, fun k hk => .inl hk⟩
        · have h8z : ¬ (8 : Int) ≤ (m.length : Int) := by omega
          have HI : Aside (∃ i0, Try.prog.info? 29 = some i0 ∧ i0.zero = some (.agg #[.string ⟨#[]⟩, .string ⟨#[]⟩, .int .i64 0, .int .i64 0]) ∧ i0.size = 4 ∧ i0.bytes = 48) := by
            show ∃ i0, _
            obtain ⟨i0, hi, hz0, hz1, hz2⟩ := info_parts Try.info29
            exact ⟨i0, hi, hz0, hz1, hz2⟩
          go_wp2_with (go_at_call 21; refine hcon.mono ?_; rintro e w5 ⟨rfl, hb5⟩; have h5 := HST.out w5 hb5; have hc5 := h5.1.out.c0)
          have h5 : Aside _ := HST.out w5 hb5
          have x0 : w5.cell? ⟨w.heap.size, 0, none⟩ = some (.string a.realm) := by have := h5.out.2.1.out; simp [World.cell?, this]
          have x1 : w5.cell? ⟨w.heap.size, 1, none⟩ = some (.string a.name) := by have := h5.out.2.1.out; simp [World.cell?, this]
          have x2 : w5.cell? ⟨w.heap.size, 2, none⟩ = some (.int .i64 a.time) := by have := h5.out.2.1.out; simp [World.cell?, this]
          have x3 : w5.cell? ⟨w.heap.size, 3, none⟩ = some (.int .i64 a.seq) := by have := h5.out.2.1.out; simp [World.cell?, this]
          have y0 := h5.out.1.out.c0
          have z0 := h5.out.1.out.f 0
          have hB5 : B < w5.heap.size := h5.out.1.out.lt
          have hs5 : w.heap.size < w5.heap.size := lt_of_block h5.out.2.1.out
          obtain ⟨i0, hi, hz0, hz1, hz2⟩ := HI.out
          have HOW : Aside (w5.ownsRow 0 29 4 (.slice ad m.length cap) m.length (encs m)) := h5.out.2.2.2
          go_region_law (refine step_append_lies _ rfl (.tmp 66) (.tmp 68) 42 rfl 0 29 i0 (.agg #[.string ⟨#[]⟩, .string ⟨#[]⟩, .int .i64 0, .int .i64 0]) 4 48 Try.underlying42 hi hz0 hz1 hz2 rfl (by decide) (.slice ad m.length cap) m.length (encs m) (by simp [Act.eval, Act.put]) (HOW.out.alloc _) ⟨w5.heap.size, 0, none⟩ 1 1 (enc a) (by simp [Act.eval, Act.put]) rfl (by exact World.news_of_block (cs := (enc a).toArray) (t := 29) (fr := (0, 0)) (heap_alloc_new _ _)) (enc_one a) (by omega) (by unfold maxLen; omega) (by omega) (Nat.zero_le _) _ rfl ?_; intro g6 cap6 w6 hown6 hgrow6 hat6 hlt6; have y6 : w6.cell? ⟨B, 0, none⟩ = some (.slice ad m.length cap) := (hgrow6.cell_far ⟨B, 0, none⟩ (by simp; omega) (fun e => HNB.out e.symm)).trans (by simp [World.cell?_drew, y0, World.cell?_alloc_past _ _ _ hB5]); have z6 : w6.frozen? ⟨B, 0, none⟩ = false := (hgrow6.frozen_far ⟨B, 0, none⟩ (by simp; omega) (fun e => HNB.out e.symm)).trans (by simp [World.frozen?_drew, z0, World.frozen?_alloc_past _ _ _ hB5]))
          all_goals
            clear x0 x1 x2 x3 y0 z0 y6 z6 hi hz0 hz1 hz2
            have hend := see_end2 HO.out.lt h5.out.1.out h5.out.2.2.1.out HNB.out hown6 hgrow6 hat6
            clear hown6 hgrow6 hat6 hlt6
            go_wp2
            go_ret
            refine ⟨by unfold seeAns; rw [if_neg (by rw [HK.out]; decide), HM.out, if_neg (by rw [HDU.out]; decide), if_neg h8]; rfl, ?_⟩
            have e : seeList l on since a now = m ++ [a] := by unfold seeList; rw [if_neg (by rw [HK.out]; decide), HM.out, if_neg (by rw [HDU.out]; decide), if_neg h8]
            rw [e]
            exact hend

end Go.Proofs.Ytjikekfjhfcdpaa
