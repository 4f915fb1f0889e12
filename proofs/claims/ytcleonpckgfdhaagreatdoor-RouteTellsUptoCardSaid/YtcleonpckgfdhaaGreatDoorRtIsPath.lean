/-
  route.isPath.
-/
import Derived.Test.YtcleonpckgfdhaaGreatDoorRtIs
set_option linter.unusedVariables false
set_option linter.unusedSimpArgs false
set_option maxRecDepth 100000
namespace Go.Proofs.YtcleonpckgfdhaaGreatDoor
open Go Go.RowKit Go.Lib Go.Shelf

theorem viaBad_all (R : List Str) (f t : Str) (V : List Str) : V.any (viaBad R f t) = false ↔ ∀ r ∈ V, r ∈ R ∧ r ≠ f ∧ r ≠ t := by
  rw [List.any_eq_false]
  unfold viaBad
  constructor
  · intro h r hr
    have := h r hr
    simpa [not_or] using this
  · intro h r hr
    have := h r hr
    simp [this.1, this.2.1, this.2.2]

set_option maxHeartbeats 4000000 in
theorem isPath_any (w : World) (v : Tv) (T : Topo) (f t : ByteArray) (av : Option Addr) (nv cv : Nat) (V : List Str) (hT : Tt w v T) (hnr : v.nr ≤ 100000) (hV : At w av nv V) (hnv : nv ≤ cv) :
    Calls Tryz.prog 48 #[.agg #[.slice v.ar v.nr v.cr, .slice v.al v.nl v.cl, .slice v.ap v.np v.cp], .agg #[.string f, .string t, .slice av nv cv]] w fun e w' => e = .returned (.bool (decide (wayOk T.realms ((f.data.toList, t.data.toList), V)))) ∧ Below w.heap.size w w' := by
  obtain ⟨R, hR⟩ : ∃ R, R = decide (wayOk T.realms ((f.data.toList, t.data.toList), V)) := ⟨_, rfl⟩
  rw [← hR]
  have HR := Lib.hid hR
  obtain ⟨w2, hw2⟩ : ∃ w2, w2 = (w.alloc (.cells #[.slice v.ar v.nr v.cr, .slice v.al v.nl v.cl, .slice v.ap v.np v.cp] 26)).alloc (.cells #[.string f, .string t, .slice av nv cv] 41) := ⟨_, rfl⟩
  have acc : Below w.heap.size w w2 := by rw [hw2]; exact ((Below.refl _ _).alloc (Nat.le_refl _) _).alloc (by simp) _
  have hz : w2.heap.size = w.heap.size + 2 := by rw [hw2]; simp
  have k0 : w2.cell? ⟨w.heap.size, 0, none⟩ = some (.slice v.ar v.nr v.cr) := by rw [hw2]; exact cell_old _ (cell_new rfl _ _ rfl)
  have k1 : ∀ (i : Nat) x, (#[Value.string f, .string t, .slice av nv cv] : Array Value)[i]? = some x → w2.cell? ⟨w.heap.size + 1, i, none⟩ = some x := fun i x h => by rw [hw2]; exact cell_new (by simp) _ _ h
  have keep : ∀ W, Below w2.heap.size w2 W → W.cell? ⟨w.heap.size, 0, none⟩ = some (.slice v.ar v.nr v.cr) ∧ W.cell? ⟨w.heap.size + 1, 0, none⟩ = some (.string f) ∧ W.cell? ⟨w.heap.size + 1, 1, none⟩ = some (.string t) ∧ W.cell? ⟨w.heap.size + 1, 2, none⟩ = some (.slice av nv cv) := fun W h =>
    ⟨(h.cell (p := ⟨w.heap.size, 0, none⟩) (by show w.heap.size < _; omega)).trans k0, (h.cell (p := ⟨w.heap.size + 1, 0, none⟩) (by show w.heap.size + 1 < _; omega)).trans (k1 0 _ rfl), (h.cell (p := ⟨w.heap.size + 1, 1, none⟩) (by show w.heap.size + 1 < _; omega)).trans (k1 1 _ rfl), (h.cell (p := ⟨w.heap.size + 1, 2, none⟩) (by show w.heap.size + 1 < _; omega)).trans (k1 2 _ rfl)⟩
  have hVA : ∀ W, Below w2.heap.size w2 W → nv ≤ 100000 → Calls Tryz.prog 29 #[.slice av nv cv, .func (.func 60) #[] #[.pointer (some ⟨w.heap.size, 0, none⟩), .pointer (some ⟨w.heap.size + 1, 0, none⟩)]] W fun e w' => e = .returned (.bool (V.any (viaBad T.realms f.data.toList t.data.toList))) ∧ Below W.heap.size W w' := fun W h h4 =>
    viaBadAny_any W w.heap.size (w.heap.size + 1) av nv cv V _ ((hV.below acc).below h) (by omega) (fun W2 x h2 hx => by
      obtain ⟨a0, a1, a2, _⟩ := keep W2 (h.trans (h2.mono h.size))
      exact viaBad_any W2 w.heap.size (w.heap.size + 1) v.ar v.nr v.cr T.realms f t x (((hT.r.below acc).below h).below h2) hnr a0 a1 a2)
  have hCR : ∀ (s : ByteArray), Calls Tryz.prog 25 #[.slice v.ar v.nr v.cr, .string s] w2 fun e w' => e = .returned (.bool (decide (s.data.toList ∈ T.realms))) ∧ w' = w2 := fun s => containsB_any w2 v.ar v.nr v.cr T.realms s (hT.r.below acc) hnr
  have hTW : nv ≤ 100000 → Calls Tryz.prog 46 #[.slice av nv cv] w2 fun e w' => e = .returned (.bool (!decide V.Nodup)) ∧ Below w2.heap.size w2 w' := fun h => isTwiceS_any w2 av nv cv V (hV.below acc) hnv h
  have kft := eq_bytes f t
  have kftn := neq_bytes f t
  have HVA := Lib.hid hVA
  have KEEP := Lib.hid keep
  have ACC := Lib.hid acc
  have hvl := hV.len
  have HVL := Lib.hid hvl
  have tok : True := trivial
  rw [hw2] at hCR hTW
  have HW2 := Lib.hid hw2
  clear hT hR hw2 acc hz k0 k1 keep hVA hV hvl
  have hC1 := hCR f
  have hC2 := hCR t
  clear hCR
  by_cases h1 : f.data.toList ∈ T.realms
  · have d1 := decide_eq_true h1
    rw [d1] at hC1
    by_cases h2 : t.data.toList ∈ T.realms
    · have d2 := decide_eq_true h2
      rw [d2] at hC2
      by_cases h3 : f.data.toList = t.data.toList
      · rw [decide_eq_true h3] at kft kftn
        have hr : R = false := by rw [HR.out]; exact decide_eq_false fun h => h.2.2.1 h3
        subst hr
        clear h1 h2 h3 d1 d2 HR hTW
        go_enter Tryz.func48, Tryz.ntmps48
        go_wp2_with (first
          | (go_at_call 25; have _t := tok; refine hC1.mono ?_; rintro e w3 ⟨rfl, rfl⟩; clear tok)
          | (go_at_call 25; refine hC2.mono ?_; rintro e w3 ⟨rfl, rfl⟩))
        go_ret
        exact ⟨rfl, by rw [← HW2.out]; exact ACC.out⟩
      · rw [decide_eq_false h3] at kft kftn
        by_cases h4 : nv ≤ 4
        · have h4z : (nv : Int) ≤ 4 := by omega
          have hTW2 := hTW (by omega)
          clear hTW
          by_cases h5 : V.Nodup
          · have d5 := decide_eq_true h5
            rw [d5] at hTW2
            by_cases h6 : V.any (viaBad T.realms f.data.toList t.data.toList) = false
            · have hr : R = true := by rw [HR.out]; exact decide_eq_true ⟨h1, h2, h3, by have := HVL.out; show V.length ≤ 4; omega, h5, (viaBad_all _ _ _ _).1 h6⟩
              subst hr
              have H6 := Lib.hid h6
              clear h1 h2 h3 d1 d2 HR h5 d5 h6
              go_enter Tryz.func48, Tryz.ntmps48
              go_wp2_with (first
                | (go_at_call 25; have _t := tok; refine hC1.mono ?_; rintro e w3 ⟨rfl, rfl⟩; clear tok)
                | (go_at_call 25; refine hC2.mono ?_; rintro e w3 ⟨rfl, rfl⟩)
                | (go_at_call 46; refine hTW2.mono ?_; rintro e w3 ⟨rfl, hb3⟩; rw [← HW2.out] at hb3; obtain ⟨a0, a1, a2, a3⟩ := KEEP.out w3 hb3)
                | (go_at_call 29; refine (HVA.out w3 hb3 (by omega)).mono ?_; rintro e w4 ⟨rfl, hb4⟩; rw [H6.out]))
              go_ret
              exact ⟨rfl, (ACC.out.trans (hb3.mono ACC.out.size)).trans (hb4.mono (Nat.le_trans ACC.out.size hb3.size))⟩
            · have hr : R = false := by rw [HR.out]; exact decide_eq_false fun h => h6 ((viaBad_all _ _ _ _).2 h.2.2.2.2.2)
              have h6 : V.any (viaBad T.realms f.data.toList t.data.toList) = true := by simpa using h6
              subst hr
              have H6 := Lib.hid h6
              clear h1 h2 h3 d1 d2 HR h5 d5 h6
              go_enter Tryz.func48, Tryz.ntmps48
              go_wp2_with (first
                | (go_at_call 25; have _t := tok; refine hC1.mono ?_; rintro e w3 ⟨rfl, rfl⟩; clear tok)
                | (go_at_call 25; refine hC2.mono ?_; rintro e w3 ⟨rfl, rfl⟩)
                | (go_at_call 46; refine hTW2.mono ?_; rintro e w3 ⟨rfl, hb3⟩; rw [← HW2.out] at hb3; obtain ⟨a0, a1, a2, a3⟩ := KEEP.out w3 hb3)
                | (go_at_call 29; refine (HVA.out w3 hb3 (by omega)).mono ?_; rintro e w4 ⟨rfl, hb4⟩; rw [H6.out]))
              go_ret
              exact ⟨rfl, (ACC.out.trans (hb3.mono ACC.out.size)).trans (hb4.mono (Nat.le_trans ACC.out.size hb3.size))⟩
          · have d5 := decide_eq_false h5
            rw [d5] at hTW2
            have hr : R = false := by rw [HR.out]; exact decide_eq_false fun h => h5 h.2.2.2.2.1
            subst hr
            clear h1 h2 h3 d1 d2 HR h5 d5
            go_enter Tryz.func48, Tryz.ntmps48
            go_wp2_with (first
              | (go_at_call 25; have _t := tok; refine hC1.mono ?_; rintro e w3 ⟨rfl, rfl⟩; clear tok)
              | (go_at_call 25; refine hC2.mono ?_; rintro e w3 ⟨rfl, rfl⟩)
              | (go_at_call 46; refine hTW2.mono ?_; rintro e w3 ⟨rfl, hb3⟩; rw [← HW2.out] at hb3))
            go_ret
            exact ⟨rfl, ACC.out.trans (hb3.mono ACC.out.size)⟩
        · have h4z : ¬ (nv : Int) ≤ 4 := by omega
          have hr : R = false := by rw [HR.out]; exact decide_eq_false fun h => by have := h.2.2.2.1; have e := HVL.out; simp only at this; omega
          subst hr
          clear h1 h2 h3 d1 d2 HR hTW
          go_enter Tryz.func48, Tryz.ntmps48
          go_wp2_with (first
            | (go_at_call 25; have _t := tok; refine hC1.mono ?_; rintro e w3 ⟨rfl, rfl⟩; clear tok)
            | (go_at_call 25; refine hC2.mono ?_; rintro e w3 ⟨rfl, rfl⟩))
          go_ret
          exact ⟨rfl, by rw [← HW2.out]; exact ACC.out⟩
    · have d2 := decide_eq_false h2
      rw [d2] at hC2
      have hr : R = false := by rw [HR.out]; exact decide_eq_false fun h => h2 h.2.1
      subst hr
      clear h1 h2 d1 d2 HR hTW kft kftn
      go_enter Tryz.func48, Tryz.ntmps48
      go_wp2_with (first
        | (go_at_call 25; have _t := tok; refine hC1.mono ?_; rintro e w3 ⟨rfl, rfl⟩; clear tok)
        | (go_at_call 25; refine hC2.mono ?_; rintro e w3 ⟨rfl, rfl⟩))
      go_ret
      exact ⟨rfl, by rw [← HW2.out]; exact ACC.out⟩
  · have d1 := decide_eq_false h1
    rw [d1] at hC1
    have hr : R = false := by rw [HR.out]; exact decide_eq_false fun h => h1 h.1
    subst hr
    clear h1 d1 HR hTW hC2 kft kftn
    go_enter Tryz.func48, Tryz.ntmps48
    go_wp2_with (go_at_call 25; have _t := tok; refine hC1.mono ?_; rintro e w3 ⟨rfl, rfl⟩; clear tok)
    go_ret
    exact ⟨rfl, by rw [← HW2.out]; exact ACC.out⟩
end Go.Proofs.YtcleonpckgfdhaaGreatDoor
