/-
  RouteMay: the law's walk; what a law's bound gives.
-/
import Derived.Test.YtcleonpckgfdhaaDoorRtKnown
set_option linter.unusedVariables false
set_option linter.unusedSimpArgs false
set_option maxRecDepth 100000
namespace Go.Proofs.YtcleonpckgfdhaaDoor
open Go Go.RowKit Go.Lib Go.Shelf

theorem bulk_realms {T : Topo} {n : Nat} (h : bulkT T ≤ n) : T.realms.length ≤ n ∧ ∀ r ∈ T.realms, r.length < n := by
  have h1 : sumBy sizeS T.realms ≤ n := by unfold bulkT at h; omega
  refine ⟨Nat.le_trans (sumBy_len sizeS (fun x => by unfold sizeS; omega) _) h1, fun r hr => ?_⟩
  have := sumBy_mem sizeS hr
  unfold sizeS at this h1
  omega
theorem bulk_links {T : Topo} {n : Nat} (h : bulkT T ≤ n) : T.links.length ≤ n := by
  have h1 : sumBy sizeL T.links ≤ n := by unfold bulkT at h; omega
  exact Nat.le_trans (sumBy_len sizeL (fun x => by unfold sizeL; omega) _) h1
theorem bulk_short {T : Topo} {n : Nat} (h : bulkT T ≤ n) (hn : n ≤ 89999) : Short T ∧ T.paths.length ≤ n := by
  have h1 : sumBy sizeP T.paths ≤ n := by unfold bulkT at h; omega
  have h2 := Nat.le_trans (sumBy_len sizeP (fun x => by unfold sizeP; omega) T.paths) h1
  refine ⟨⟨by omega, fun p hp => ?_⟩, h2⟩
  have h3 := sumBy_mem sizeP hp
  have h4 : sumBy sizeS p.2 ≤ n := by unfold sizeP at h3 h1; omega
  refine ⟨?_, fun r hr => ?_⟩
  · have := sumBy_len sizeS (fun x => by unfold sizeS; omega) p.2
    omega
  · have := sumBy_mem sizeS hr
    unfold sizeS at this h4
    omega

theorem box_keep {w w1 : World} {c : Array Value} {t : TypeId} (h : w1 = w.alloc (.cells c t)) : (Below w.heap.size w w1) ∧ w1.heap.size = w.heap.size + 1 ∧ ∀ W, Below w1.heap.size w1 W → ∀ (i : Nat) x, c[i]? = some x → W.cell? ⟨w.heap.size, i, none⟩ = some x := by
  subst h
  refine ⟨(Below.refl _ _).alloc (Nat.le_refl _) _, by simp, fun W hW i x hx => ?_⟩
  exact (hW.cell (p := ⟨w.heap.size, i, none⟩) (by show w.heap.size < _; simp)).trans (cell_new rfl _ _ hx)

set_option maxHeartbeats 8000000 in
theorem routeMay_walk (v : Tv) (T : Topo) (hk : bulkT T ≤ 1048576) (w : World) (hg : Glob w) (hT : Tt w v T) :
    Calls Tryd.prog 3 #[.agg #[.slice v.ar v.nr v.cr, .slice v.al v.nl v.cl, .slice v.ap v.np v.cp]] w fun e w' => e = .returned (.bool true) ∧ Below w.heap.size w w' := by
  obtain ⟨ar, nr, cr, al, nl, cl, ap, np, cp⟩ := v
  dsimp only
  obtain ⟨w1, hw1⟩ : ∃ w1, w1 = w.alloc (.cells #[.slice ar nr cr, .slice al nl cl, .slice ap np cp] 26) := ⟨_, rfl⟩
  obtain ⟨acc0, hz, kp⟩ := box_keep hw1
  have keep : ∀ W, Below w1.heap.size w1 W → W.cell? ⟨w.heap.size, 0, none⟩ = some (.slice ar nr cr) ∧ W.cell? ⟨w.heap.size, 1, none⟩ = some (.slice al nl cl) ∧ W.cell? ⟨w.heap.size, 2, none⟩ = some (.slice ap np cp) := fun W h => ⟨kp W h 0 _ rfl, kp W h 1 _ rfl, kp W h 2 _ rfl⟩
  have hB := big_any w1 ⟨ar, nr, cr, al, nl, cl, ap, np, cp⟩ T (hT.below acc0) (by omega)
  have hl1 : T.realms.length = nr := hT.r.len
  have hl2 : T.links.length = nl := hT.l.len
  have hl3 : T.paths.length = np := hT.p.len
  have HG := Lib.hid (hg.below acc0)
  have KEEP := Lib.hid keep
  have ACC := Lib.hid acc0
  have HW1 := Lib.hid hw1
  dsimp only at hB
  rw [hw1] at hB
  by_cases hbig : 3000 < bulkT T
  · rw [decide_eq_true hbig] at hB
    clear hbig hk hl1 hl2 hl3 hw1 acc0 hz kp keep hg hT
    go_enter Tryd.func3, Tryd.ntmps3
    go_wp2_with (go_at_call 11; refine hB.mono ?_; rintro e w2 ⟨rfl, hb2⟩; rw [← HW1.out] at hb2)
    go_ret
    exact ⟨rfl, ACC.out.trans (hb2.mono ACC.out.size)⟩
  · rw [decide_eq_false hbig] at hB
    have hbk : bulkT T ≤ 3000 := by omega
    obtain ⟨hr1, hr2⟩ := bulk_realms hbk
    have hr3 := bulk_links hbk
    obtain ⟨hS, hr4⟩ := bulk_short hbk (by omega)
    have hI := fun W (h : Below w1.heap.size w1 W) => is7_any W ⟨ar, nr, cr, al, nl, cl, ap, np, cp⟩ T ((hT.below acc0).below h) ((hg.below acc0).below h) (fun r hr => by have := hr2 r hr; omega) (by dsimp only; omega) (by dsimp only; omega) (by dsimp only; omega)
    have hRI := fun W (h : Below w1.heap.size w1 W) => refIs7_any W ⟨ar, nr, cr, al, nl, cl, ap, np, cp⟩ T ((hT.below acc0).below h) (fun r hr => by have := hr2 r hr; omega) (by dsimp only; omega) (by dsimp only; omega) (by dsimp only; omega)
    dsimp only at hI hRI
    generalize decide (topoOk T) = ok at hI hRI
    have HI := Lib.hid hI
    have HRI := Lib.hid hRI
    clear hbig hk hl1 hl2 hl3 hw1 acc0 hz kp keep hg hT hbk hr1 hr2 hr3 hS hr4 hI hRI
    go_enter Tryd.func3, Tryd.ntmps3
    go_wp2_with (go_at_call 11; refine hB.mono ?_; rintro e w2 ⟨rfl, hb2⟩; rw [← HW1.out] at hb2)
    have acc : Below w1.heap.size w1 w2.drew := hb2.drew
    clear hb2 hB
    have hbe : (ok == ok) = true := by cases ok <;> rfl
    refine wp_region_held_drew (S := (fun W => W.cell? ⟨w.heap.size, 0, none⟩ = some (.slice ar nr cr) ∧ W.cell? ⟨w.heap.size, 1, none⟩ = some (.slice al nl cl) ∧ W.cell? ⟨w.heap.size, 2, none⟩ = some (.slice ap np cp))) (by kernel_rfl) (KEEP.out _ acc) (fun hHeld => ?_)
    refine wpAnyH_take (i := 0) (oi := { dst := some 5, op := Op.load 26 (Operand.tmp 1), type := 26, pos := "law.go:57", after := #[], guard := none }) (v := ?v1) rfl (by kernel_rfl) (by kernel_rfl) (by kernel_rfl) (fun _ _ _ h => h) (Or.inl ⟨by rfl, ?hy1⟩) (by assumption) ?_
    case hy1 => (intro w hSw; (try dsimp only at hSw); go_simp; try with_reducible rfl)
    try simp only [Act.put, List.setIfInBounds_toArray, List.set_cons_zero, List.set_cons_succ]
    refine wpAnyH_take (i := 2) (oi := { dst := some 7, op := Op.load 26 (Operand.tmp 1), type := 26, pos := "law.go:57", after := #[], guard := none }) (v := ?v2) rfl (by kernel_rfl) (by kernel_rfl) (by kernel_rfl) (fun _ _ _ h => h) (Or.inl ⟨by rfl, ?hy2⟩) (by assumption) ?_
    case hy2 => (intro w hSw; (try dsimp only at hSw); go_simp; try with_reducible rfl)
    try simp only [Act.put, List.setIfInBounds_toArray, List.set_cons_zero, List.set_cons_succ]
    refine wpAnyH_ready (rs := [1]) (by kernel_rfl) (by simp) ?_
    refine AllReadyH.cons (o := { dst := some 6, op := Op.call { callee := Callee.value (Operand.func 12), args := #[Operand.tmp 5], argTypes := #[26] }, type := 4, pos := "law.go:57", after := #[{ on := 0, ground := Ground.data }], guard := none }) rfl (fun K hK => ?_) AllReadyH.nil
    go_wp2_with (go_at_call 12; refine (HI.out _ acc).mono ?_; rintro e w3 ⟨rfl, hb3⟩; replace acc := acc.trans (hb3.mono acc.size); clear hb3)
    refine hK.out _ _ (KEEP.out _ acc) (fun hHeld => ?_)
    clear hK K
    try simp only [Act.put, List.setIfInBounds_toArray, List.set_cons_zero, List.set_cons_succ]
    refine wpAnyH_ready (rs := [3]) (by kernel_rfl) (by simp) ?_
    refine AllReadyH.cons (o := { dst := some 8, op := Op.call { callee := Callee.value (Operand.func 13), args := #[Operand.tmp 7], argTypes := #[26] }, type := 4, pos := "law.go:57", after := #[{ on := 2, ground := Ground.data }, { on := 1, ground := Ground.chain }], guard := none }) rfl (fun K hK => ?_) AllReadyH.nil
    go_wp2_with (go_at_call 13; refine (HRI.out _ acc).mono ?_; rintro e w4 ⟨rfl, hb4⟩; replace acc := acc.trans (hb4.mono acc.size); clear hb4)
    refine hK.out _ _ (KEEP.out _ acc) (fun hHeld => ?_)
    clear hK K
    try simp only [Act.put, List.setIfInBounds_toArray, List.set_cons_zero, List.set_cons_succ]
    refine wpAnyH_take (i := 4) (oi := { dst := some 9, op := Op.binOp BinOp.eql 4 (Operand.tmp 6) (Operand.tmp 8) 4, type := 4, pos := "law.go:57", after := #[{ on := 1, ground := Ground.data }, { on := 3, ground := Ground.data }], guard := none }) (v := ?v3) rfl (by kernel_rfl) (by kernel_rfl) (by kernel_rfl) (fun _ _ _ h => h) (Or.inl ⟨by rfl, ?hy3⟩) (by assumption) ?_
    case hy3 => (intro w hSw; (try dsimp only at hSw); go_simp; try with_reducible rfl)
    try simp only [Act.put, List.setIfInBounds_toArray, List.set_cons_zero, List.set_cons_succ]
    refine wpAnyH_take (i := 5) (oi := { dst := some 10, op := Op.move (Operand.tmp 9), type := 4, pos := "law.go:57", after := #[{ on := 4, ground := Ground.data }, { on := 3, ground := Ground.chain }], guard := none }) (v := ?v4) rfl (by kernel_rfl) (by kernel_rfl) (by kernel_rfl) (fun _ _ _ h => h) (Or.inl ⟨by rfl, ?hy4⟩) (by assumption) ?_
    case hy4 => (intro w hSw; (try dsimp only at hSw); go_simp; try with_reducible rfl)
    try simp only [Act.put, List.setIfInBounds_toArray, List.set_cons_zero, List.set_cons_succ]
    refine wpAnyH_ready (rs := [6]) (by kernel_rfl) (by simp) ?_
    refine AllReadyH.cons (o := { dst := some 11, op := Op.call { callee := Callee.value (Operand.func 14), args := #[], argTypes := #[] }, type := 4, pos := "law.go:57", after := #[{ on := 5, ground := Ground.chain }, { on := 5, ground := Ground.guard }], guard := some (5, true) }) rfl (fun K hK => ?_) AllReadyH.nil
    rw [if_pos (by rfl)]
    go_simp
    refine (known_any _ (HG.out.below acc)).mono ?_
    rintro e w5 ⟨rfl, hb5⟩
    replace acc := acc.trans (hb5.mono acc.size)
    clear hb5
    dsimp only
    refine hK.out _ _ (KEEP.out _ acc) (fun hHeld => ?_)
    clear hK K
    try simp only [Act.put, List.setIfInBounds_toArray, List.set_cons_zero, List.set_cons_succ]
    refine wpAnyH_take (i := 7) (oi := { dst := some 12, op := Op.pick (Operand.tmp 10) (Operand.tmp 11) (Operand.const (Value.bool false)), type := 4, pos := "law.go:57", after := #[{ on := 5, ground := Ground.data }, { on := 6, ground := Ground.data }], guard := none }) (v := ?v5) rfl (by kernel_rfl) (by kernel_rfl) (by kernel_rfl) (fun _ _ _ h => h) (Or.inl ⟨by rfl, ?hy5⟩) (by assumption) ?_
    case hy5 => (intro w hSw; (try dsimp only at hSw); go_simp; try with_reducible rfl)
    try simp only [Act.put, List.setIfInBounds_toArray, List.set_cons_zero, List.set_cons_succ]
    refine wpAnyH_take (i := 8) (oi := { dst := some 2, op := Op.assign (Operand.tmp 12), type := 4, pos := "law.go:57", after := #[{ on := 7, ground := Ground.data }, { on := 6, ground := Ground.chain }, { on := 0, ground := Ground.phase }, { on := 1, ground := Ground.phase }, { on := 2, ground := Ground.phase }, { on := 3, ground := Ground.phase }, { on := 4, ground := Ground.phase }, { on := 5, ground := Ground.phase }, { on := 6, ground := Ground.phase }, { on := 7, ground := Ground.phase }], guard := none }) (v := ?v6) rfl (by kernel_rfl) (by kernel_rfl) (by kernel_rfl) (fun _ _ _ h => h) (Or.inl ⟨by rfl, ?hy6⟩) (by assumption) ?_
    case hy6 => (intro w hSw; (try dsimp only at hSw); go_simp; try with_reducible rfl)
    try simp only [Act.put, List.setIfInBounds_toArray, List.set_cons_zero, List.set_cons_succ]
    refine wpAnyH_done (by kernel_rfl) ?_ _
    go_wp2
    go_ret
    exact ⟨rfl, ACC.out.trans (acc.mono ACC.out.size)⟩
end Go.Proofs.YtcleonpckgfdhaaDoor
