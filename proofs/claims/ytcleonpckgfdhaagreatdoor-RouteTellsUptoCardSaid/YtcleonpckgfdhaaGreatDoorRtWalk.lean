/-
  route.Walk.
-/
import Derived.Test.YtcleonpckgfdhaaGreatDoorRtNext
set_option linter.unusedVariables false
set_option linter.unusedSimpArgs false
set_option maxRecDepth 100000
namespace Go.Proofs.YtcleonpckgfdhaaGreatDoor
open Go Go.RowKit Go.Lib Go.Shelf

theorem bet_short {a b r : Str} (h : r ∈ betOf a b) : r.length ≤ 37 := by
  by_cases ha : kindOf a = 0
  · rw [betOf_none (.inl ha)] at h; simp at h
  · by_cases hb : kindOf b = 0
    · rw [betOf_none (.inr hb)] at h; simp at h
    · have hp := pair_of ha hb
      have hle := hp.le
      rw [betOf_eq ha hb] at h
      rcases List.mem_append.1 h with h | h
      · obtain ⟨j, h1, h2, rfl⟩ := mem_ups h
        exact good_short (hp.ga.take (by omega))
      · rcases List.mem_append.1 h with h | h
        · unfold mid at h
          split at h
          · simp only [List.mem_singleton] at h
            subst h
            exact good_short (hp.ga.take (by omega))
          · simp at h
        · obtain ⟨j, h1, h2, rfl⟩ := mem_downs h
          exact good_short (hp.gb.take (by omega))
theorem via_short {T : Topo} (hS : Short T) {a b r : Str} (h : r ∈ viaOf T a b) : r.length < 90000 := by
  unfold viaOf laidOf at h
  cases hf : T.paths.find? fun p => decide (p.1 = (a, b)) with
  | none =>
    rw [hf] at h
    have := bet_short (a := a) (b := b) (r := r) h
    omega
  | some p =>
    rw [hf] at h
    exact (hS.2 p (List.mem_of_find?_eq_some hf)).2 r h
theorem wayTo_mem {T : Topo} {a b n : Str} (h : n ∈ wayTo T a b) : n ∈ viaOf T a b ∨ n = b := by
  unfold wayTo at h
  unfold viaOf
  cases hl : laidOf T a b with
  | none =>
    rw [hl] at h
    simp only at h ⊢
    simpa using h
  | some v =>
    rw [hl] at h
    simp only at h ⊢
    have := List.mem_of_mem_take h
    simpa using this
theorem next_short {T : Topo} (hS : Short T) {a b n : Str} (hb : b.length < 90000) (h : nextOf T a b = some n) : n.length < 90000 := by
  rcases wayTo_mem (next_mem h) with h | h
  · exact via_short hS h
  · rw [h]; exact hb

theorem walkGo_next {T : Topo} {b x : Str} (f : Nat) (seen : List Str) (h : x ≠ b) : walkGo T b (f + 1) seen x = (nextOf T x b).elim none fun m => if m ∈ seen ∨ (5 < seen.length ∧ m ≠ b) then none else walkGo T b f (seen ++ [m]) m := by
  rw [walkGo, if_neg h]
  cases nextOf T x b <;> rfl

def WalkPost (w w' : World) (r : Option (List Str)) (e : Ending) : Prop := match r with
  | none => e = .returned (.tuple #[.slice none 0 0, .bool false]) ∧ Below w.heap.size w w'
  | some l => ∃ ad c, e = .returned (.tuple #[.slice ad l.length c, .bool true]) ∧ At w' ad l.length l ∧ Below w.heap.size w w'

theorem neq_bytes (x y : ByteArray) : (x.toList != y.toList) = !decide (x.data.toList = y.data.toList) := by
  have := eq_bytes x y
  unfold bne
  rw [this]

theorem At.drop1 {w : World} {g n : Nat} {l : List Str} (h : At w (some ⟨g, 0, none⟩) n l) : At w (some ⟨g, 1, none⟩) (n - 1) (l.drop 1) := by
  refine ⟨by simp [h.len], fun h0 => ?_⟩
  obtain ⟨b, off, e, hlt, hc⟩ := h.cell (by omega)
  simp only [Option.some.injEq, Addr.mk.injEq] at e
  obtain ⟨rfl, rfl, _⟩ := e
  refine ⟨g, 1, rfl, hlt, fun j hj => ?_⟩
  have := hc (1 + j) (by omega)
  rw [Nat.zero_add] at this
  rw [this, getElem!_pos l (1 + j) (by rw [h.len]; omega), getElem!_pos (l.drop 1) j (by simp [h.len]; omega), List.getElem_drop]

set_option maxHeartbeats 8000000 in
theorem walk_any (w : World) (v : Tv) (T : Topo) (a b : ByteArray) (hT : Tt w v T) (hS : Short T) (hnl : v.nl ≤ 4611686018427387904) (hg : Glob w) (ha : a.size < 90000) (hb : b.size < 90000) :
    Calls Tryz.prog 9 #[.agg #[.slice v.ar v.nr v.cr, .slice v.al v.nl v.cl, .slice v.ap v.np v.cp], .string a, .string b] w fun e w' => WalkPost w w' (walkOf T a.data.toList b.data.toList) e := by
  have HT := Lib.hid hT
  have HG := Lib.hid hg
  have HS := Lib.hid hS
  obtain ⟨R, hR⟩ : ∃ R, R = walkOf T a.data.toList b.data.toList := ⟨_, rfl⟩
  rw [← hR]
  have HR := Lib.hid hR
  obtain ⟨w1, hw1⟩ : ∃ w1, w1 = w.alloc (.cells #[.slice v.ar v.nr v.cr, .slice v.al v.nl v.cl, .slice v.ap v.np v.cp] 26) := ⟨_, rfl⟩
  have acc : Below w.heap.size w w1 := by rw [hw1]; exact (Below.refl _ _).alloc (Nat.le_refl _) _
  have hz : w1.heap.size = w.heap.size + 1 := by rw [hw1]; simp
  have k0 : ∀ (i : Nat) x, (#[Value.slice v.ar v.nr v.cr, .slice v.al v.nl v.cl, .slice v.ap v.np v.cp] : Array Value)[i]? = some x → w1.cell? ⟨w.heap.size, i, none⟩ = some x := fun i x h => by rw [hw1]; exact cell_new rfl _ _ h
  have keep : ∀ w2, Below w1.heap.size w1 w2 → w2.cell? ⟨w.heap.size, 0, none⟩ = some (.slice v.ar v.nr v.cr) ∧ w2.cell? ⟨w.heap.size, 1, none⟩ = some (.slice v.al v.nl v.cl) ∧ w2.cell? ⟨w.heap.size, 2, none⟩ = some (.slice v.ap v.np v.cp) := fun w2 h =>
    ⟨(h.cell (p := ⟨w.heap.size, 0, none⟩) (by show w.heap.size < _; omega)).trans (k0 0 _ rfl), (h.cell (p := ⟨w.heap.size, 1, none⟩) (by show w.heap.size < _; omega)).trans (k0 1 _ rfl), (h.cell (p := ⟨w.heap.size, 2, none⟩) (by show w.heap.size < _; omega)).trans (k0 2 _ rfl)⟩
  have KEEP := Lib.hid keep
  have ACC := Lib.hid acc
  have HZ := Lib.hid hz
  have HW1 := Lib.hid hw1
  clear hT hg hS hR keep acc hz hw1 k0
  go_enter Tryz.func9, Tryz.ntmps9
  go_wp2
  obtain ⟨w2, hw2⟩ : ∃ w2, w2 = (w.alloc (.cells #[.slice v.ar v.nr v.cr, .slice v.al v.nl v.cl, .slice v.ap v.np v.cp] 26)).alloc (.cells #[.string a] 9) := ⟨_, rfl⟩
  have hn2 : w1.heap.size = w.heap.size + 1 := HZ.out
  have own2 : w2.ownsRow w1.heap.size 9 1 (.slice (some ⟨w.heap.size + 1, 0, none⟩) 1 1) 1 (strs [a.data.toList]) := by
    rw [hw2, ← HW1.out, ← hn2]
    exact wpList_lit_text (w := w1) a.data.toList
  have b2 : Below w1.heap.size w1 w2 := by rw [hw2, ← HW1.out]; exact (Below.refl _ _).alloc (Nat.le_refl _) _
  rw [← hw2]
  have OWN2 := Lib.hid own2
  have B2 := Lib.hid b2
  clear hw2 hn2 own2 b2
  go_loopg [8, 9] 8 (fun gg s8 s9 wr => ∃ (seen : List Str) (n : Nat) (x : ByteArray) (g : Nat) (c : Nat), s8 = .slice (some ⟨g, 0, none⟩) n c ∧ s9 = .string x ∧ 9 - n ≤ gg + 1 ∧ 1 ≤ n ∧ n ≤ 7 ∧ n ≤ c ∧ x.size < 90000 ∧ Aside (seen.length = n) ∧ Aside (wr.ownsRow w1.heap.size 9 1 (.slice (some ⟨g, 0, none⟩) n c) n (strs seen)) ∧ Aside (Below w1.heap.size w1 wr) ∧ Aside (walkGo T b.data.toList 8 [a.data.toList] a.data.toList = walkGo T b.data.toList (9 - n) seen x.data.toList) ∧ Aside (x.data.toList = b.data.toList ∨ n ≤ 6))
  case atStart => exact ⟨[a.data.toList], 1, a, w.heap.size + 1, 1, rfl, rfl, by simp, by simp, by simp, by simp, ha, rfl, OWN2.out, B2.out, rfl, .inr (by simp)⟩
  case round =>
    obtain ⟨seen, n, x, g, c, rfl, rfl, hgg, h1, h7, hnc, hx, HN, HO, HB, HW, H6⟩ := hrel
    have kx := eq_bytes x b
    have kn := neq_bytes x b
    by_cases hxb : x.data.toList = b.data.toList
    · rw [decide_eq_true hxb] at kx kn
      obtain ⟨L, hL⟩ : ∃ L, L = (seen.drop 1).dropLast := ⟨_, rfl⟩
      have hRs : R = some L := by
        rw [HR.out, hL]
        unfold walkOf
        rw [HW.out, show 9 - n = (8 - n) + 1 by omega, walkGo, if_pos hxb]
        rfl
      subst hRs
      have hA : At wr (some ⟨g, 1, none⟩) (n - 2) L := by
        have := (At.owns HO.out).drop1.take (m := n - 2) (by omega)
        rw [hL, show (seen.drop 1).dropLast = (seen.drop 1).take (n - 2) by rw [List.dropLast_eq_take, List.length_drop, HN.out, show n - 1 - 1 = n - 2 by omega]]
        exact this
      have hbw := Lib.hid (ACC.out.trans (HB.out.mono ACC.out.size))
      have hll := hA.len
      clear hxb HR hL
      by_cases hn1 : n = 1
      · subst hn1
        have : L = [] := List.length_eq_zero_iff.1 (by omega)
        subst this
        clear hll hA
        by_cases hc1 : c = 1
        · subst hc1
          go_wp2
          go_ret2
          exact ⟨_, _, rfl, At.nil _ _, hbw.out⟩
        · have hc2 : (1 : Int) ≤ (c : Int) := by omega
          have hc3 : 1 < c := by omega
          go_wp2
          go_ret2
          exact ⟨_, _, rfl, At.nil _ _, hbw.out⟩
      · have hmx : max ((n : Int) - 1) 1 = ((n - 1 : Nat) : Int) := by omega
        obtain ⟨m, rfl⟩ : ∃ m, n = m + 2 := ⟨n - 2, by omega⟩
        have hmx : max (((m + 2 : Nat) : Int) - 1) 1 = ((m + 1 : Nat) : Int) := by omega
        have hc2 : 1 < c := by omega
        have hc3 : ((m + 1 : Nat) : Int) ≤ (c : Int) := by omega
        have HA := Lib.hid hA
        have HLL := Lib.hid hll
        clear hA hll
        go_wp2
        go_ret2
        have e0 := HLL.out
        have hA2 := HA.out
        have hq : m = L.length := by omega
        subst hq
        refine ⟨some ⟨g, 1, none⟩, c - 1, ?_, hA2, hbw.out⟩
        show Ending.returned (.tuple #[.slice (some ⟨g, 1, none⟩) ((max ((L.length : Int) + 2 - 1) 1).toNat - 1) (c - 1), .bool true]) = _
        rw [show (max ((L.length : Int) + 2 - 1) 1).toNat - 1 = L.length by omega]
    · rw [decide_eq_false hxb] at kx kn
      have hn6 : n ≤ 6 := by
        rcases H6.out with h | h
        · exact absurd h hxb
        · exact h
      obtain ⟨a0, a1, a2⟩ := KEEP.out wr HB.out
      have accr := ACC.out.trans (HB.out.mono ACC.out.size)
      have hN := next_any wr v T x b (HT.out.below accr) HS.out hnl (HG.out.below accr) hx hb
      have hW1 : walkGo T b.data.toList 8 [a.data.toList] a.data.toList = (nextOf T x.data.toList b.data.toList).elim none fun m => if m ∈ seen ∨ (5 < seen.length ∧ m ≠ b.data.toList) then none else walkGo T b.data.toList (8 - n) (seen ++ [m]) m := by
        rw [HW.out, show 9 - n = (8 - n) + 1 by omega, walkGo_next _ _ hxb]
      have hshort := fun m (h : nextOf T x.data.toList b.data.toList = some m) => next_short HS.out (show b.data.toList.length < 90000 from hb) h
      have HXB := Lib.hid hxb
      have ACR := Lib.hid accr
      clear hxb accr HW H6
      cases hnx : nextOf T x.data.toList b.data.toList with
      | none =>
        rw [hnx] at hN hW1
        have hRs : R = none := by
          rw [HR.out]
          unfold walkOf
          rw [hW1]
          rfl
        subst hRs
        unfold nextV at hN
        simp only at hN
        clear hnx hW1 hshort HR
        go_wp2_with (go_at_call 7; refine hN.mono ?_; rintro e w3 ⟨rfl, hb3⟩)
        go_ret2
        exact ⟨rfl, ACR.out.trans (hb3.mono ACR.out.size)⟩
      | some m =>
        rw [hnx] at hN hW1
        have hms : m.length < 90000 := hshort m hnx
        unfold nextV at hN
        simp only [Option.elim] at hN hW1
        clear hnx hshort
        by_cases hin : m ∈ seen
        · have hind : decide (m ∈ seen) = true := decide_eq_true hin
          have hRs : R = none := by
            rw [HR.out]
            unfold walkOf
            rw [hW1, if_pos (.inl hin)]
            rfl
          subst hRs
          clear hW1 hin HR
          go_wp2_with (first
            | (go_at_call 7; refine hN.mono ?_; rintro e w3 ⟨rfl, hb3⟩)
            | (go_at_call 25; refine (contains_any _ _ _ _ seen m (At.owns (own_below HO.out hb3)) (by omega)).mono ?_; rintro e w4 ⟨rfl, h4⟩; rw [hind]; replace h4 := h4.symm; subst h4))
          go_ret2
          exact ⟨rfl, ACR.out.trans (hb3.mono ACR.out.size)⟩
        · have hind : decide (m ∈ seen) = false := decide_eq_false hin
          have kmn : ((⟨m.toArray⟩ : ByteArray).toList != b.toList) = !decide (m = b.data.toList) := neq_bytes ⟨m.toArray⟩ b
          have km2 : (m == b.toList) = decide (m = b.data.toList) := by rw [ByteArray.toList_eq, Bool.eq_iff_iff]; simp
          by_cases hfail : 5 < n ∧ m ≠ b.data.toList
          · have h5z : (5 : Int) < (n : Int) := by omega
            rw [decide_eq_false hfail.2] at kmn km2
            have hRs : R = none := by
              rw [HR.out]
              unfold walkOf
              rw [hW1, if_pos (.inr (by rw [HN.out]; exact hfail))]
              rfl
            subst hRs
            clear hW1 hin HR hfail
            go_wp2_with (first
              | (go_at_call 7; refine hN.mono ?_; rintro e w3 ⟨rfl, hb3⟩)
              | (go_at_call 25; refine (contains_any _ _ _ _ seen m (At.owns (own_below HO.out hb3)) (by omega)).mono ?_; rintro e w4 ⟨rfl, h4⟩; rw [hind]; replace h4 := h4.symm; subst h4))
            go_ret2
            exact ⟨rfl, ACR.out.trans (hb3.mono ACR.out.size)⟩
          · have hW2 : walkGo T b.data.toList 8 [a.data.toList] a.data.toList = walkGo T b.data.toList (9 - (n + 1)) (seen ++ [m]) (⟨m.toArray⟩ : ByteArray).data.toList := by
              rw [hW1, if_neg (by rw [HN.out]; rintro (h | h); exact hin h; exact hfail h), show 9 - (n + 1) = 8 - n by omega]
            have hdone : (⟨m.toArray⟩ : ByteArray).data.toList = b.data.toList ∨ n + 1 ≤ 6 := by
              by_cases h : m = b.data.toList
              · exact .inl h
              · exact .inr (by
                  have : ¬ 5 < n := fun h5 => hfail ⟨h5, h⟩
                  omega)
            have HW2 := Lib.hid hW2
            have HDN := Lib.hid hdone
            have hnb : b.data.toList.length = b.size := rfl
            clear hW1 hW2 hdone hin
            by_cases h5 : 5 < n
            · have h5z : (5 : Int) < (n : Int) := by omega
              have hmb : m = b.data.toList := by
                by_cases h : m = b.data.toList
                · exact h
                · exact absurd ⟨h5, h⟩ hfail
              rw [decide_eq_true hmb] at kmn km2
              clear hfail hmb
              go_wp2_with (first
                | (go_at_call 7; refine hN.mono ?_; rintro e w3 ⟨rfl, hb3⟩)
                | (go_at_call 25; refine (contains_any _ _ _ _ seen m (At.owns (own_below HO.out hb3)) (by omega)).mono ?_; rintro e w4 ⟨rfl, h4⟩; rw [hind]; replace h4 := h4.symm; subst h4)
                | (at_builtin; refine wpList_append_text _ rfl (.tmp 42) (.tmp 44) rfl w1.heap.size (some ⟨g, 0, none⟩) n c seen rfl ((own_below HO.out hb3).alloc _) w3.heap.size m rfl (heap_alloc_new _ _) (by omega) (by have := hb3.size; have := HB.out.size; simp; omega) ?_; intro g6 cap6 w6 hown6 hb6))
              have hbb : Below w1.heap.size w1 w6 := (HB.out.trans (hb3.mono HB.out.size)).trans (((Below.refl _ _).alloc (Nat.le_trans HB.out.size hb3.size) _).trans hb6)
              have HO6 := Lib.hid hown6
              have HB6 := Lib.hid hbb
              have hc6 := own_cap hown6
              clear hown6 hb6 hbb hb3
              go_roundg (8 - (n + 1))
              case measure => omega
              case rel => exact ⟨seen ++ [m], n + 1, ⟨m.toArray⟩, g6, cap6, rfl, rfl, by omega, by omega, by omega, hc6, hms, by have := HN.out; simp; omega, HO6.out, HB6.out, HW2.out, HDN.out⟩
            · have h5z : ¬ (5 : Int) < (n : Int) := by omega
              clear hfail kmn km2
              go_wp2_with (first
                | (go_at_call 7; refine hN.mono ?_; rintro e w3 ⟨rfl, hb3⟩)
                | (go_at_call 25; refine (contains_any _ _ _ _ seen m (At.owns (own_below HO.out hb3)) (by omega)).mono ?_; rintro e w4 ⟨rfl, h4⟩; rw [hind]; replace h4 := h4.symm; subst h4)
                | (at_builtin; refine wpList_append_text _ rfl (.tmp 42) (.tmp 44) rfl w1.heap.size (some ⟨g, 0, none⟩) n c seen rfl ((own_below HO.out hb3).alloc _) w3.heap.size m rfl (heap_alloc_new _ _) (by omega) (by have := hb3.size; have := HB.out.size; simp; omega) ?_; intro g6 cap6 w6 hown6 hb6))
              have hbb : Below w1.heap.size w1 w6 := (HB.out.trans (hb3.mono HB.out.size)).trans (((Below.refl _ _).alloc (Nat.le_trans HB.out.size hb3.size) _).trans hb6)
              have HO6 := Lib.hid hown6
              have HB6 := Lib.hid hbb
              have hc6 := own_cap hown6
              clear hown6 hb6 hbb hb3
              go_roundg (8 - (n + 1))
              case measure => omega
              case rel => exact ⟨seen ++ [m], n + 1, ⟨m.toArray⟩, g6, cap6, rfl, rfl, by omega, by omega, by omega, hc6, hms, by have := HN.out; simp; omega, HO6.out, HB6.out, HW2.out, HDN.out⟩
end Go.Proofs.YtcleonpckgfdhaaGreatDoor
