/-
  replay.See: the whole contract.
-/
import Derived.Test.YtjikekfjhfcdpaaSee2
import Derived.StillTailTactics
import Derived.Deep.DeepCutAuto
set_option linter.unusedVariables false
set_option linter.unusedSimpArgs false
namespace Go.Proofs.Ytjikekfjhfcdpaa
open Go Go.RowKit Go.Lib Go.Shelf

theorem heap_two_old (w : World) (o1 o2 : Obj) {B : Nat} (h : B < w.heap.size) : ((w.alloc o1).alloc o2).heap[B]? = w.heap[B]? := by
  rw [heap_alloc_old _ _ (by simp; omega), heap_alloc_old _ _ h]

/-- What an owned row of authenticators is: nil, or a block of its own. -/
theorem owns_cases {w : World} {base : Nat} {ad : Option Addr} {n cap : Nat} {l : List Au} (h : w.ownsRow base 29 4 (.slice ad n cap) n (encs l)) :
    l.length = n ∧ ((ad = none ∧ n = 0 ∧ cap = 0) ∨ ∃ g tl, ad = some ⟨g, 0, none⟩ ∧ base ≤ g ∧ RowAt w g l tl ∧ n ≤ cap ∧ cap ≤ maxLen ∧ (encs l ++ tl).length = cap * 4) := by
  have hl : l.length = n := by have := h.1; rw [encs_length] at this; omega
  refine ⟨hl, ?_⟩
  rcases h.2 with ⟨h1, h2⟩ | ⟨g, c, cur, h1, h2, h3, h4, h5, h6, h7⟩
  · simp only [Value.slice.injEq] at h1
    exact .inl h1
  · simp only [Value.slice.injEq] at h1
    obtain ⟨rfl, _, rfl⟩ := h1
    refine .inr ⟨g, cur.toList.drop (n * 4), rfl, h2, ?_, h4, h5, ?_⟩
    · unfold RowAt; rw [h3, ← h7, List.take_append_drop]
    · rw [← h7, List.take_append_drop, Array.length_toList, h6]

theorem owns_of {w : World} {base g cap : Nat} {l : List Au} {tl : List Value} (hg : base ≤ g) (h : RowAt w g l tl) (hn : l.length ≤ cap) (hc : cap ≤ maxLen) (hs : (encs l ++ tl).length = cap * 4) :
    w.ownsRow base 29 4 (.slice (some ⟨g, 0, none⟩) l.length cap) l.length (encs l) := by
  refine ⟨encs_length l, .inr ⟨g, cap, (encs l ++ tl).toArray, rfl, hg, h, hn, hc, by simpa using hs, ?_⟩⟩
  rw [List.toList_toArray, ← encs_length, List.take_left]

/-- What DeleteFunc leaves of an owned row. -/
def DelOwn (w w' : World) (base : Nat) (ad : Option Addr) (n cap : Nat) (l : List Au) : Prop :=
  w'.ownsRow base 29 4 (.slice ad l.length cap) l.length (encs l) ∧ w.grownBy w' (Value.slice ad n cap).ownBlock

theorem delete_own (w : World) (base nb n cap : Nat) (ad : Option Addr) (now : Int) (hn : -4611686018427387904 ≤ now ∧ now ≤ 4611686018427387904) (hc : w.cell? ⟨nb, 0, none⟩ = some (.int .i64 now)) (l : List Au)
    (hown : w.ownsRow base 29 4 (.slice ad n cap) n (encs l)) (hne : ∀ g, ad = some ⟨g, 0, none⟩ → nb ≠ g) (hbig : n ≤ 4611686018427387904) :
    Calls Try.prog 19 #[.slice ad n cap, .func (.func 20) #[] #[.pointer (some ⟨nb, 0, none⟩)]] w fun e w' => e = .returned (.slice ad (l.filter (keep now)).length cap) ∧ DelOwn w w' base ad n cap (l.filter (keep now)) := by
  obtain ⟨hl, h⟩ := owns_cases hown
  rcases h with ⟨rfl, rfl, rfl⟩ | ⟨g, tl, rfl, hg, hrow, hnc, hcm, hsz⟩
  · obtain rfl : l = [] := List.eq_nil_of_length_eq_zero hl
    exact (delete_nil w 0 _).mono fun e w' ⟨he, hw⟩ => ⟨he, by subst hw; exact ⟨hown, ⟨rfl, rfl, rfl, Nat.le_refl _, fun _ _ _ => rfl⟩⟩⟩
  · refine (delete_any w nb g n cap now hn hc (hne g rfl) l tl hrow hl hbig hnc).mono fun e w' ⟨he, tl', h1, h2, h3⟩ => ⟨he, owns_of hg h1 ?_ hcm (by rw [h2, hsz]), h3⟩
    exact Nat.le_trans (List.length_filter_le _ _) (by omega)

theorem contains_own (w : World) (base n cap : Nat) (ad : Option Addr) (l : List Au) (x : Au) (hown : w.ownsRow base 29 4 (.slice ad n cap) n (encs l)) (hbig : n ≤ 4611686018427387904) :
    Calls Try.prog 21 #[.slice ad n cap, .agg #[.string x.realm, .string x.name, .int .i64 x.time, .int .i64 x.seq]] w fun e w' => e = .returned (.bool (l.any (same x))) ∧ Below w.heap.size w w' := by
  obtain ⟨hl, h⟩ := owns_cases hown
  rcases h with ⟨rfl, rfl, rfl⟩ | ⟨g, tl, rfl, hg, hrow, hnc, hcm, hsz⟩
  · obtain rfl : l = [] := List.eq_nil_of_length_eq_zero hl
    exact contains_nil w 0 x
  · exact contains_any w g n cap l tl x hrow hl (by omega)

/-- A Replay in memory: its block, and the row of what was seen. -/
def Rep (w : World) (base B : Nat) (l : List Au) (on : Bool) (since : Int) : Prop :=
  base ≤ B ∧ ∃ ad cap, Obj3 w B (.slice ad l.length cap) on since ∧ w.ownsRow base 29 4 (.slice ad l.length cap) l.length (encs l)

/-- What See answers, and what is seen then. -/
def seeAns (l : List Au) (on : Bool) (since : Int) (a : Au) (now : Int) : Int :=
  if skewed on since a now then 8 else if (l.filter (keep now)).any (same a) then 12 else if 8 ≤ (l.filter (keep now)).length then 13 else 0
def seeList (l : List Au) (on : Bool) (since : Int) (a : Au) (now : Int) : List Au :=
  if skewed on since a now then l else if (l.filter (keep now)).any (same a) then l.filter (keep now) else if 8 ≤ (l.filter (keep now)).length then l.filter (keep now) else l.filter (keep now) ++ [a]

/-- What the call leaves. -/
def SeePost (w w' : World) (base B : Nat) (l : List Au) (on : Bool) (since : Int) : Prop := Rep w' base B l on since ∧ Below base w w'

theorem Try.info29 : (Try.prog.info? 29).map (fun i => (i.zero, i.size, i.bytes)) = some (some (.agg #[.string ⟨#[]⟩, .string ⟨#[]⟩, .int .i64 0, .int .i64 0]), 4, 48) := by kernel_rfl

/-- Behind the append, and the store of the new row. -/
theorem see_end {w w5 w6 : World} {base B g6 cap6 : Nat} {ad : Option Addr} {cap : Nat} {m : List Au} {a : Au} {on : Bool} {since : Int} {o : Obj}
    (hB : B < w.heap.size) (hbB : base ≤ B) (hO : Obj3 w5 B (.slice ad m.length cap) on since) (hb : Below base w w5) (hn : (Value.slice ad m.length cap).ownBlock ≠ some B)
    (hown : w6.ownsRow base 29 4 (.slice (some ⟨g6, 0, none⟩) (m.length + 1) cap6) (m.length + 1) (encs m ++ enc a)) (hg : (w5.alloc o).drew.grownBy w6 (Value.slice ad m.length cap).ownBlock) (hbs : base ≤ w5.heap.size)
    (hr : ∀ k, (Value.slice ad m.length cap).ownBlock = some k → base ≤ k) :
    SeePost w (w6.setCell ⟨B, 0, none⟩ (.slice (some ⟨g6, 0, none⟩) (m.length + 1) cap6)) base B (m ++ [a]) on since := by
  have hs : (w5.alloc o).drew.heap.size = w5.heap.size + 1 := by show (w5.alloc o).heap.size = _; simp
  have hO6 : Obj3 w6 B (.slice ad m.length cap) on since := hO.block ((hg.block B (by rw [hs]; have := hO.lt; omega) (fun e => hn e.symm)).trans (heap_alloc_old w5 o hO.lt))
  have e : encs (m ++ [a]) = encs m ++ enc a := by simp [encs]
  have hgB : g6 ≠ B := fun h => by
    rcases hown.2 with ⟨h1, _⟩ | ⟨g', c', cur, h1, _, h3, _⟩
    · simp at h1
    · simp only [Value.slice.injEq, Option.some.injEq, Addr.mk.injEq, and_true, true_and] at h1
      obtain ⟨rfl, _⟩ := h1
      unfold Obj3 at hO6
      rw [h] at h3
      rw [h3] at hO6
      simp at hO6
  refine ⟨⟨hbB, some ⟨g6, 0, none⟩, cap6, ?_, ?_⟩, ?_⟩
  · have := hO6.put (.slice (some ⟨g6, 0, none⟩) (m.length + 1) cap6)
    rwa [show (m ++ [a]).length = m.length + 1 by simp]
  · rw [show (m ++ [a]).length = m.length + 1 by simp, e]
    exact ownsRow_setCell_other hown (by simpa [Value.ownBlock] using hgB) _
  · exact (((hb.alloc hbs o).drew).grown hg (by rw [hs]; omega) hr).setCell hbB _

set_option maxHeartbeats 4000000 in
theorem see_any (w : World) (base B : Nat) (l : List Au) (on : Bool) (since : Int) (a : Au) (now : Int) (hR : Rep w base B l on since) (hbase : base ≤ w.heap.size) (hl8 : l.length ≤ 8)
    (ha : -4611686018427387904 ≤ now ∧ now ≤ 4611686018427387904) (hs : -4611686018427387904 ≤ since ∧ since ≤ 4611686018427387904) :
    Calls Try.prog 11 #[.pointer (some ⟨B, 0, none⟩), .agg #[.string a.realm, .string a.name, .int .i64 a.time, .int .i64 a.seq], .int .i64 now] w fun e w' => e = .returned (.int .i64 (seeAns l on since a now)) ∧ SeePost w w' base B (seeList l on since a now) on since := by
  obtain ⟨hbB, ad, cap, hO, hown⟩ := hR
  have b0 := hO.c0; have b1 := hO.c1; have b2 := hO.c2; have fB := hO.f 0
  have hB := hO.lt
  obtain ⟨a1, a2⟩ := ha
  obtain ⟨s1, s2⟩ := hs
  have HO : Aside (Obj3 w B (.slice ad l.length cap) on since) := hO
  have HW : Aside (w.ownsRow base 29 4 (.slice ad l.length cap) l.length (encs l)) := hown
  clear hO hown
  go_enter Try.func11, Try.ntmps11
  go_upto_region 3 with (fail)
  go_cut [10] (fun v10 wc => v10 = .bool (skewed on since a now) ∧ ∃ q, wc = ((w.alloc (.cells #[.string a.realm, .string a.name, .int .i64 a.time, .int .i64 a.seq] 29)).alloc (.cells #[.int .i64 now] 3)).drewN q)
  case first =>
    by_cases h1 : now + 5 < a.time
    · have h1' : decide (now + 5 < a.time) = true := by simpa using h1
      have HK : Aside (skewed on since a now = true) := by show skewed on since a now = true; simp [skewed, h1]
      go_quiet (fail)
      go_wp2
      go_meet
      case rel => exact ⟨by rw [HK.out], _, rfl⟩
    · have h1' : decide (now + 5 < a.time) = false := by simpa using h1
      by_cases h2 : a.time < now - 5
      · have h2' : decide (a.time < now - 5) = true := by simpa using h2
        have HK : Aside (skewed on since a now = true) := by show skewed on since a now = true; simp [skewed, h2]
        go_quiet (fail)
        go_wp2
        go_meet
        case rel => exact ⟨by rw [HK.out], _, rfl⟩
      · have h2' : decide (a.time < now - 5) = false := by simpa using h2
        cases on with
        | false =>
          have HK : Aside (skewed false since a now = false) := by show skewed false since a now = false; simp [skewed]; omega
          go_quiet (fail)
          go_wp2
          go_meet
          case rel => exact ⟨by rw [HK.out], _, rfl⟩
        | true =>
          by_cases h3 : a.time ≤ since + 5
          · have h3' : decide (a.time ≤ since + 5) = true := by simpa using h3
            have HK : Aside (skewed true since a now = true) := by show skewed true since a now = true; simp [skewed, h3]
            go_quiet (fail)
            go_wp2
            go_meet
            case rel => exact ⟨by rw [HK.out], _, rfl⟩
          · have h3' : decide (a.time ≤ since + 5) = false := by simpa using h3
            have HK : Aside (skewed true since a now = false) := by show skewed true since a now = false; simp [skewed, h3]; omega
            go_quiet (fail)
            go_wp2
            go_meet
            case rel => exact ⟨by rw [HK.out], _, rfl⟩
  case rest =>
    obtain ⟨rfl, q, rfl⟩ := hcut
    cases hk : skewed on since a now with
    | true =>
      have HK : Aside (skewed on since a now = true) := hk
      clear hk
      go_wp2
      go_ret
      refine ⟨by unfold seeAns; rw [if_pos HK.out]; rfl, ?_⟩
      have e : seeList l on since a now = l := by unfold seeList; rw [if_pos HK.out]
      rw [e]
      exact ⟨⟨hbB, ad, cap, HO.out.block (heap_two_old w _ _ hB), (HW.out.alloc _).alloc _⟩, below_drewN (((Below.refl _ w).alloc hbase _).alloc (by simp; omega) _) _⟩
    | false =>
      have HK : Aside (skewed on since a now = false) := hk
      clear hk
      obtain ⟨w2, HW2⟩ : ∃ w2, Aside (w2 = ((w.alloc (.cells #[.string a.realm, .string a.name, .int .i64 a.time, .int .i64 a.seq] 29)).alloc (.cells #[.int .i64 now] 3)).drewN q) := ⟨_, rfl⟩
      rw [← HW2.out]
      have hgl : ∀ g, ad = some ⟨g, 0, none⟩ → g < w.heap.size := fun g e => (HW.out.lt g (by rw [e]; rfl)).2
      have hgB : ∀ g, ad = some ⟨g, 0, none⟩ → g ≠ B := fun g e h => by
        rcases (owns_cases HW.out).2 with ⟨h1, _⟩ | ⟨g', tl, h1, _, hr, _⟩
        · rw [h1] at e; cases e
        · rw [h1] at e
          simp at e
          subst e
          unfold RowAt at hr
          have := HO.out
          unfold Obj3 at this
          rw [← h, hr] at this
          simp at this
      have hdel := delete_own w2 base (w.heap.size + 1) l.length cap ad now ⟨a1, a2⟩ (by rw [HW2.out, World.cell?_drewN]; simp [World.cell?_alloc_at]) l (by rw [HW2.out]; exact (HW.out.alloc _).alloc _) (fun g e h => by have := hgl g e; omega) (by omega)
      have HBX : Aside (w2.heap[w.heap.size]? = some (.cells #[.string a.realm, .string a.name, .int .i64 a.time, .int .i64 a.seq] 29 (0, 0))) := by
        show w2.heap[w.heap.size]? = _
        rw [HW2.out]; show ((w.alloc _).alloc _).heap[w.heap.size]? = _
        rw [heap_alloc_old _ _ (by simp), heap_alloc_new]
      have HO2 : Aside (Obj3 w2 B (.slice ad l.length cap) on since) := HO.out.block (by rw [HW2.out]; exact heap_two_old w _ _ hB)
      have hB2 : Below base w w2 := by rw [HW2.out]; exact below_drewN (((Below.refl _ w).alloc hbase _).alloc (by simp; omega) _) _
      have HB2 : Aside (Below base w w2) := hB2
      have hs2 : w2.heap.size = w.heap.size + 2 := by rw [HW2.out]; show ((w.alloc _).alloc _).heap.size = _; simp
      have HS2 : Aside (w2.heap.size = w.heap.size + 2) := hs2
      have HGL : Aside (∀ g, ad = some ⟨g, 0, none⟩ → g < w.heap.size) := hgl
      have HGB : Aside (∀ g, ad = some ⟨g, 0, none⟩ → g ≠ B) := hgB
      have hc0 := HO2.out.c0
      have hcf := HO2.out.f 0
      clear hB2 hs2 hgl hgB b0 b1 b2 fB
      have hml : (l.filter (keep now)).length ≤ 8 := Nat.le_trans (List.length_filter_le _ _) hl8
      obtain ⟨m, HM⟩ : ∃ m, Aside (l.filter (keep now) = m) := ⟨_, rfl⟩
      rw [HM.out] at hdel hml
      go_wp2_with fail
      refine hdel.mono ?_
      rintro e w1 ⟨rfl, hown1, hg1⟩
      have hgr : ∀ b, b < w2.heap.size → (∀ g, ad = some ⟨g, 0, none⟩ → g ≠ b) → w1.heap[b]? = w2.heap[b]? := fun b hb h => hg1.block b hb (by
        cases ad with
        | none => simp [Value.ownBlock]
        | some x =>
          rcases (owns_cases HW.out).2 with ⟨h1, _⟩ | ⟨g', tl, h1, _, hr, _⟩
          · cases h1
          · cases h1
            simp only [Value.ownBlock, ne_eq, Option.some.injEq]
            exact fun e => h g' rfl e.symm)
      have HO1 : Aside (Obj3 w1 B (.slice ad l.length cap) on since) := HO2.out.block (hgr B (by rw [HS2.out]; omega) HGB.out)
      have HBX1 : Aside (w1.heap[w.heap.size]? = some (.cells #[.string a.realm, .string a.name, .int .i64 a.time, .int .i64 a.seq] 29 (0, 0))) := (hgr _ (by rw [HS2.out]; omega) (fun g e h => by have := HGL.out g e; omega)).trans HBX.out
      have hnB : (Value.slice ad m.length cap).ownBlock ≠ some B := by
        cases ad with
        | none => simp [Value.ownBlock]
        | some x =>
          rcases (owns_cases HW.out).2 with ⟨h1, _⟩ | ⟨g', tl, h1, _, hr, _⟩
          · cases h1
          · cases h1
            simpa [Value.ownBlock] using HGB.out g' rfl
      have HB1 : Aside (Below base w w1) := HB2.out.grown hg1 (by rw [HS2.out]; omega) (fun k e => (HW.out.lt k e).1)
      have HW1 : Aside ((w1.setCell ⟨B, 0, none⟩ (.slice ad m.length cap)).ownsRow base 29 4 (.slice ad m.length cap) m.length (encs m)) := ownsRow_setCell_other hown1 hnB _
      have HS1 : Aside (w.heap.size + 2 ≤ w1.heap.size) := by have := hg1.size; rw [HS2.out] at this; exact this
      have hc1 := HO1.out.c0
      have hcf1 := HO1.out.f 0
      have hB1 : B < w1.heap.size := HO1.out.lt
      have hne1 : B ≠ w.heap.size := by omega
      have HNB : Aside ((Value.slice ad m.length cap).ownBlock ≠ some B) := hnB
      clear hgr hg1 hown1 hc0 hcf hnB hdel
      go_wp2_with fail
      have HO3 : Aside (Obj3 (w1.setCell ⟨B, 0, none⟩ (.slice ad m.length cap)) B (.slice ad m.length cap) on since) := HO1.out.put _
      have HBX3 : Aside ((w1.setCell ⟨B, 0, none⟩ (.slice ad m.length cap)).heap[w.heap.size]? = some (.cells #[.string a.realm, .string a.name, .int .i64 a.time, .int .i64 a.seq] 29 (0, 0))) := by
        show (w1.setCell ⟨B, 0, none⟩ (.slice ad m.length cap)).heap[w.heap.size]? = _
        rw [heap_setCell_other w1 ⟨B, 0, none⟩ w.heap.size _ (fun e => hne1 e.symm)]; exact HBX1.out
      have HB3 : Aside (Below base w (w1.setCell ⟨B, 0, none⟩ (.slice ad m.length cap))) := HB1.out.setCell hbB _
      have HS3 : Aside (w.heap.size + 2 ≤ (w1.setCell ⟨B, 0, none⟩ (.slice ad m.length cap)).heap.size) := by show _ ≤ _; have := HS1.out; simpa [World.setCell] using this
      clear hc1 hcf1 hB1
      generalize w1.setCell ⟨B, 0, none⟩ (.slice ad m.length cap) = w3 at HO3 HBX3 HB3 HS3 HW1 ⊢
      have x0 : w3.cell? ⟨w.heap.size, 0, none⟩ = some (.string a.realm) := by have := HBX3.out; simp [World.cell?, this]
      have x1 : w3.cell? ⟨w.heap.size, 1, none⟩ = some (.string a.name) := by have := HBX3.out; simp [World.cell?, this]
      have x2 : w3.cell? ⟨w.heap.size, 2, none⟩ = some (.int .i64 a.time) := by have := HBX3.out; simp [World.cell?, this]
      have x3 : w3.cell? ⟨w.heap.size, 3, none⟩ = some (.int .i64 a.seq) := by have := HBX3.out; simp [World.cell?, this]
      have y0 := HO3.out.c0
      have hB3 : B < w3.heap.size := HO3.out.lt
      go_still_tail 5, (by kernel_rfl)
      change wpList _ _ _ _ _ w3.drew
      have HO4 : Aside (Obj3 w3.drew B (.slice ad m.length cap) on since) := HO3
      have HBX4 : Aside (w3.drew.heap[w.heap.size]? = some (.cells #[.string a.realm, .string a.name, .int .i64 a.time, .int .i64 a.seq] 29 (0, 0))) := HBX3
      have HB4 : Aside (Below base w w3.drew) := HB3.out.drew
      have HS4 : Aside (w.heap.size + 2 ≤ w3.drew.heap.size) := HS3
      have HW4 : Aside (w3.drew.ownsRow base 29 4 (.slice ad m.length cap) m.length (encs m)) := HW1
      clear HO3 HBX3 HB3 HS3 HW1 x0 x1 x2 x3 y0 hB3
      generalize w3.drew = w4 at HO4 HBX4 HB4 HS4 HW4 ⊢
      have hcon := contains_own w4 base m.length cap ad m a HW4.out (by omega)
      have hB4 : B < w4.heap.size := HO4.out.lt
      -- behind the search
      have hstep : ∀ w5, Below w4.heap.size w4 w5 → Aside (Obj3 w5 B (.slice ad m.length cap) on since) ∧ Aside (w5.heap[w.heap.size]? = some (.cells #[.string a.realm, .string a.name, .int .i64 a.time, .int .i64 a.seq] 29 (0, 0))) ∧ Aside (Below base w w5) ∧ Aside (w5.ownsRow base 29 4 (.slice ad m.length cap) m.length (encs m)) := fun w5 hb =>
        ⟨HO4.out.block (hb.block B hB4), (hb.block _ (by have := HS4.out; omega)).trans HBX4.out, HB4.out.trans (hb.mono (by have := HB4.out.size; omega)), HW4.out.kept (grownBy_below hb none) (by cases (Value.slice ad m.length cap).ownBlock <;> simp)⟩
      have HST : Aside _ := hstep
      clear hstep
      cases hd : m.any (same a) with
      | true =>
        rw [hd] at hcon
        have HDU : Aside (m.any (same a) = true) := hd
        clear hd
        go_wp2_with (go_at_call 21; refine hcon.mono ?_; rintro e w5 ⟨rfl, hb5⟩)
        go_ret
        have h5 := HST.out w5 hb5
        refine ⟨by unfold seeAns; rw [if_neg (by rw [HK.out]; decide), HM.out, if_pos HDU.out]; rfl, ?_⟩
        have e : seeList l on since a now = m := by unfold seeList; rw [if_neg (by rw [HK.out]; decide), HM.out, if_pos HDU.out]
        rw [e]
        exact ⟨⟨hbB, ad, cap, h5.1.out, h5.2.2.2.out⟩, h5.2.2.1.out⟩
      | false =>
        rw [hd] at hcon
        have HDU : Aside (m.any (same a) = false) := hd
        clear hd
        by_cases h8 : 8 ≤ m.length
        · have h8z : (8 : Int) ≤ (m.length : Int) := by omega
          go_wp2_with (go_at_call 21; refine hcon.mono ?_; rintro e w5 ⟨rfl, hb5⟩; have h5 := HST.out w5 hb5; have hc5 := h5.1.out.c0)
          go_ret
          have h5 := HST.out w5 hb5
          refine ⟨by unfold seeAns; rw [if_neg (by rw [HK.out]; decide), HM.out, if_neg (by rw [HDU.out]; decide), if_pos h8]; rfl, ?_⟩
          have e : seeList l on since a now = m := by unfold seeList; rw [if_neg (by rw [HK.out]; decide), HM.out, if_neg (by rw [HDU.out]; decide), if_pos h8]
          rw [e]
          exact ⟨⟨hbB, ad, cap, h5.1.out, h5.2.2.2.out⟩, h5.2.2.1.out⟩
        · have h8z : ¬ (8 : Int) ≤ (m.length : Int) := by omega
          have HI : Aside (∃ i0, Try.prog.info? 29 = some i0 ∧ i0.zero = some (.agg #[.string ⟨#[]⟩, .string ⟨#[]⟩, .int .i64 0, .int .i64 0]) ∧ i0.size = 4 ∧ i0.bytes = 48) := by
            show ∃ i0, _
            obtain ⟨i0, hi, hz0, hz1, hz2⟩ := info_parts Try.info29
            exact ⟨i0, hi, hz0, hz1, hz2⟩
          go_wp2_with (go_at_call 21; refine hcon.mono ?_; rintro e w5 ⟨rfl, hb5⟩; have h5 := HST.out w5 hb5; have hc5 := h5.1.out.c0)
          have h5 : Aside _ := HST.out w5 hb5
          have x0 : w5.cell? ⟨w.heap.size, 0, none⟩ = some (.string a.realm) := by have := h5.out.2.1.out; simp [World.cell?, this]
          have x1 : w5.cell? ⟨w.heap.size, 1, none⟩ = some (.string a.name) := by have := h5.out.2.1.out; simp [World.cell?, this]
          have x2 : w5.cell? ⟨w.heap.size, 2, none⟩ = some (.int .i64 a.time) := by have := h5.out.2.1.out; simp [World.cell?, this]
          have x3 : w5.cell? ⟨w.heap.size, 3, none⟩ = some (.int .i64 a.seq) := by have := h5.out.2.1.out; simp [World.cell?, this]
          have y0 := h5.out.1.out.c0
          have z0 := h5.out.1.out.f 0
          have hB5 : B < w5.heap.size := h5.out.1.out.lt
          have hs5 : w.heap.size < w5.heap.size := lt_of_block h5.out.2.1.out
          obtain ⟨i0, hi, hz0, hz1, hz2⟩ := HI.out
          have HOW : Aside (w5.ownsRow base 29 4 (.slice ad m.length cap) m.length (encs m)) := h5.out.2.2.2
          have hb5s : base ≤ w5.heap.size := by have := h5.out.2.2.1.out.size; omega
          go_region_law (refine step_append_lies _ rfl (.tmp 66) (.tmp 68) 42 rfl base 29 i0 (.agg #[.string ⟨#[]⟩, .string ⟨#[]⟩, .int .i64 0, .int .i64 0]) 4 48 Try.underlying42 hi hz0 hz1 hz2 rfl (by decide) (.slice ad m.length cap) m.length (encs m) (by simp [Act.eval, Act.put]) (HOW.out.alloc _) ⟨w5.heap.size, 0, none⟩ 1 1 (enc a) (by simp [Act.eval, Act.put]) rfl (by exact World.news_of_block (cs := (enc a).toArray) (t := 29) (fr := (0, 0)) (heap_alloc_new _ _)) (enc_one a) (by omega) (by unfold maxLen; omega) (by omega) (by simp; omega) _ rfl ?_; intro g6 cap6 w6 hown6 hgrow6 hat6 hlt6; have y6 : w6.cell? ⟨B, 0, none⟩ = some (.slice ad m.length cap) := (hgrow6.cell_far ⟨B, 0, none⟩ (by simp; omega) (fun e => HNB.out e.symm)).trans (by simp [World.cell?_drew, y0, World.cell?_alloc_past _ _ _ hB5]); have z6 : w6.frozen? ⟨B, 0, none⟩ = false := (hgrow6.frozen_far ⟨B, 0, none⟩ (by simp; omega) (fun e => HNB.out e.symm)).trans (by simp [World.frozen?_drew, z0, World.frozen?_alloc_past _ _ _ hB5]))
          all_goals
            clear x0 x1 x2 x3 y0 z0 y6 z6 hi hz0 hz1 hz2
            have hend := see_end HO.out.lt hbB h5.out.1.out h5.out.2.2.1.out HNB.out hown6 hgrow6 hb5s (fun k e => (HW4.out.lt k e).1)
            clear hown6 hgrow6 hat6 hlt6
            go_wp2
            go_ret
            refine ⟨by unfold seeAns; rw [if_neg (by rw [HK.out]; decide), HM.out, if_neg (by rw [HDU.out]; decide), if_neg h8]; rfl, ?_⟩
            have e : seeList l on since a now = m ++ [a] := by unfold seeList; rw [if_neg (by rw [HK.out]; decide), HM.out, if_neg (by rw [HDU.out]; decide), if_neg h8]
            rw [e]
            exact hend

end Go.Proofs.Ytjikekfjhfcdpaa
