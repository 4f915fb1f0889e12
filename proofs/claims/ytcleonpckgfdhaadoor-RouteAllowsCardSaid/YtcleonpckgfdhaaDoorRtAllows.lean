/-
  RouteAllows: the law's walk.
-/
import Derived.Test.YtcleonpckgfdhaaDoorRtAllowed
set_option linter.unusedVariables false
set_option linter.unusedSimpArgs false
set_option maxRecDepth 100000
namespace Go.Proofs.YtcleonpckgfdhaaDoor
open Go Go.RowKit Go.Lib Go.Shelf

theorem bet_no_left (a b : Str) : a ∉ betOf a b := by
  unfold betOf
  split
  · simp
  · intro h
    have := (List.mem_filter.1 h).2
    simp [ends] at this
theorem via_plain (R : List Str) (L : List Link) (a b : Str) : viaOf ⟨R, L, []⟩ a b = betOf a b := by unfold viaOf laidOf; rfl

set_option maxHeartbeats 16000000 in
theorem routeAllows_walk (a b r : ByteArray) (sa : a.size ≤ 140737488351232) (sb : b.size ≤ 140737488351232) (sr : r.size ≤ 140737488351232) (w : World) (hg : Glob w) :
    Calls Tryd.prog 10 #[.string a, .string b, .string r] w fun e w' => e = .returned (.bool true) ∧ Below w.heap.size w w' := by
  have hw1 : IntKind.i64.wrap ((a.size : Int) + (b.size : Int)) = (a.size : Int) + (b.size : Int) := by rw [IntKind.wrap_i64]; omega
  have hw2 : IntKind.i64.wrap ((a.size : Int) + (b.size : Int) + (r.size : Int)) = (a.size : Int) + (b.size : Int) + (r.size : Int) := by rw [IntKind.wrap_i64]; omega
  by_cases hbig : 200 < a.size + b.size + r.size
  · have hbz : (200 : Int) < (a.size : Int) + (b.size : Int) + (r.size : Int) := by omega
    clear hbig
    go_enter Tryd.func10, Tryd.ntmps10
    go_wp2
    go_ret
    exact ⟨rfl, Below.refl _ _⟩
  have hbz : ¬ (200 : Int) < (a.size : Int) + (b.size : Int) + (r.size : Int) := by omega
  have za : a.size < 90000 := by omega
  have zb : b.size < 90000 := by omega
  obtain ⟨T, hTT⟩ : ∃ T : Topo, T = ⟨[a.data.toList, b.data.toList], [], []⟩ := ⟨_, rfl⟩
  obtain ⟨w1, hw1e⟩ : ∃ w1, w1 = (w.alloc (.cells #[.string a, .string b] 9)).alloc (.cells #[.slice (some ⟨w.heap.size, 0, none⟩) 2 2, .slice none 0 0, .slice none 0 0] 26) := ⟨_, rfl⟩
  have acc0 : Below w.heap.size w w1 := by rw [hw1e]; exact ((Below.refl _ _).alloc (Nat.le_refl _) _).alloc (by simp) _
  have hz : w1.heap.size = w.heap.size + 2 := by rw [hw1e]; simp
  have b1 : w1.heap[w.heap.size]? = some (.cells (strs [a.data.toList, b.data.toList]).toArray 9 (0, 0)) := by rw [hw1e]; exact (heap_alloc_old _ _ (by simp)).trans (heap_alloc_new _ _)
  have k0 : ∀ (i : Nat) x, (#[Value.slice (some ⟨w.heap.size, 0, none⟩) 2 2, .slice none 0 0, .slice none 0 0] : Array Value)[i]? = some x → w1.cell? ⟨w.heap.size + 1, i, none⟩ = some x := fun i x h => by rw [hw1e]; exact cell_new (by simp) _ _ h
  have hT : Tt w1 ⟨some ⟨w.heap.size, 0, none⟩, 2, 2, none, 0, 0, none, 0, 0⟩ T := by rw [hTT]; exact ⟨at_block b1, LinksAt.nil _ _, WaysAt.nil _ _, Nat.le_refl _, Nat.le_refl _, Nat.le_refl _⟩
  have keep : ∀ W, Below w1.heap.size w1 W → W.cell? ⟨w.heap.size + 1, 0, none⟩ = some (.slice (some ⟨w.heap.size, 0, none⟩) 2 2) ∧ W.cell? ⟨w.heap.size + 1, 1, none⟩ = some (.slice none 0 0) ∧ W.cell? ⟨w.heap.size + 1, 2, none⟩ = some (.slice none 0 0) := fun W h =>
    ⟨(h.cell (p := ⟨w.heap.size + 1, 0, none⟩) (by show w.heap.size + 1 < _; omega)).trans (k0 0 _ rfl), (h.cell (p := ⟨w.heap.size + 1, 1, none⟩) (by show w.heap.size + 1 < _; omega)).trans (k0 1 _ rfl), (h.cell (p := ⟨w.heap.size + 1, 2, none⟩) (by show w.heap.size + 1 < _; omega)).trans (k0 2 _ rfl)⟩
  have hS : Short T := by rw [hTT]; exact ⟨by simp, fun p hp => by cases hp⟩
  have hrl : ∀ x ∈ T.realms, x.length < 1100000 := by
    rw [hTT]
    intro x hx
    simp only [List.mem_cons, List.not_mem_nil, or_false] at hx
    rcases hx with rfl | rfl
    · show a.size < _; omega
    · show b.size < _; omega
  have hRI := refIs7_any w1 ⟨some ⟨w.heap.size, 0, none⟩, 2, 2, none, 0, 0, none, 0, 0⟩ T hT hrl (by dsimp only; omega) (by dsimp only; omega) (by dsimp only; omega)
  dsimp only at hRI
  have HG := Lib.hid (hg.below acc0)
  have KEEP := Lib.hid keep
  have ACC := Lib.hid acc0
  have HW1 := Lib.hid hw1e
  have HT1 := Lib.hid hT
  rw [hw1e] at hRI
  by_cases hok : topoOk T
  case neg =>
    rw [decide_eq_false hok] at hRI
    clear hok hw1e acc0 hz b1 k0 hT keep hS hrl hg hTT hbig
    go_enter Tryd.func10, Tryd.ntmps10
    go_wp2_with (go_at_call 13; refine hRI.mono ?_; rintro e w2 ⟨rfl, hb2⟩; rw [← HW1.out] at hb2)
    go_ret
    exact ⟨rfl, ACC.out.trans (hb2.mono ACC.out.size)⟩
  rw [decide_eq_true hok] at hRI
  have hvia : viaOf T a.data.toList b.data.toList = betOf a.data.toList b.data.toList := by rw [hTT]; exact via_plain _ _ _ _
  have f1 : allowedOf T a.data.toList b.data.toList (betOf a.data.toList b.data.toList) = true := by unfold allowedOf; rw [hvia, List.all_eq_true]; intro x hx; exact decide_eq_true hx
  have f2 : allowedOf T a.data.toList b.data.toList [] = true := rfl
  have f4 : allowedOf T a.data.toList b.data.toList (betOf a.data.toList b.data.toList ++ [a.data.toList]) = false := by
    unfold allowedOf
    rw [hvia, List.all_append]
    simp [bet_no_left]
  obtain ⟨q, hq⟩ : ∃ q, q = decide (r.data.toList ∈ betOf a.data.toList b.data.toList) := ⟨_, rfl⟩
  have f3 : allowedOf T a.data.toList b.data.toList [r.data.toList] = q := by unfold allowedOf; rw [hvia, hq]; simp
  obtain ⟨PL, hPL⟩ : ∃ PL, PL = placeOf (betOf a.data.toList b.data.toList) r.data.toList := ⟨_, rfl⟩
  have hpp := place_pos (betOf a.data.toList b.data.toList) r.data.toList
  rw [← hPL, ← hq] at hpp
  have h6 := betOf_six a.data.toList b.data.toList
  obtain ⟨n, hn⟩ : ∃ n, n = (betOf a.data.toList b.data.toList).length := ⟨_, rfl⟩
  rw [← hn] at h6
  have hAL := fun W (h : Below w1.heap.size w1 W) ad n c L hA hn => allowed_any W ⟨some ⟨w.heap.size, 0, none⟩, 2, 2, none, 0, 0, none, 0, 0⟩ T a b ad n c L (hT.below h) hS ((hg.below acc0).below h) za zb hA hn
  have HAL0 := Lib.hid hAL
  have HF1 := Lib.hid f1
  have HF2 := Lib.hid f2
  have HF3 := Lib.hid f3
  have HF4 := Lib.hid f4
  have HPL := Lib.hid hPL.symm
  have HN := Lib.hid hn
  clear hok hw1e acc0 hz b1 k0 hT keep hS hrl hg hTT hbig f1 f2 f3 f4 hPL hn hvia hq hAL
  go_enter Tryd.func10, Tryd.ntmps10
  go_wp2_with (first
    | (go_at_call 13; refine hRI.mono ?_; rintro e w2 ⟨rfl, hb2⟩; rw [← HW1.out] at hb2; have acc := hb2; clear hb2)
    | (go_at_call 21; refine (refbet_any _ a b za zb).mono ?_; intro e wl hp; unfold BetPost at hp; rw [← HN.out] at hp; obtain ⟨adl, cl, rfl, hol, hbl⟩ := hp; replace acc := acc.trans (hbl.mono acc.size); clear hbl))
  have HL := Lib.hid (At.owns hol)
  have ACL := Lib.hid acc
  have hkp := fun W (h : Below wl.heap.size wl W) => KEEP.out W (ACL.out.trans (h.mono ACL.out.size))
  have KP := Lib.hid hkp
  have hAL2 := fun W (h : Below wl.heap.size wl W) => HAL0.out W (ACL.out.trans (h.mono ACL.out.size))
  try dsimp only at hAL2
  have HAL := Lib.hid hAL2
  clear hol acc hkp hAL2 hRI
  have acc2 : Below wl.heap.size wl wl.drew := (Below.refl _ _).drew
  refine wp_region_held_drew (S := (fun W => W.cell? ⟨w.heap.size + 1, 0, none⟩ = some (.slice (some ⟨w.heap.size, 0, none⟩) 2 2) ∧ W.cell? ⟨w.heap.size + 1, 1, none⟩ = some (.slice none 0 0) ∧ W.cell? ⟨w.heap.size + 1, 2, none⟩ = some (.slice none 0 0))) (by kernel_rfl) (KP.out _ acc2) (fun hHeld => ?_)
  refine wpAnyH_take (i := 0) (oi := { dst := some 28, op := Op.load 26 (Operand.tmp 7), type := 26, pos := "more.go:85", after := #[], guard := none }) (v := ?v1) rfl (by kernel_rfl) (by kernel_rfl) (by kernel_rfl) (fun _ _ _ h => h) (Or.inl ⟨by rfl, ?hy1⟩) (by assumption) ?_
  case hy1 => (intro w hSw; (try dsimp only at hSw); go_simp; try with_reducible rfl)
  try simp only [Act.put, List.setIfInBounds_toArray, List.set_cons_zero, List.set_cons_succ]
  refine wpAnyH_take (i := 1) (oi := { dst := some 29, op := Op.move (Operand.tmp 0), type := 9, pos := "more.go:85", after := #[], guard := none }) (v := ?v2) rfl (by kernel_rfl) (by kernel_rfl) (by kernel_rfl) (fun _ _ _ h => h) (Or.inl ⟨by rfl, ?hy2⟩) (by assumption) ?_
  case hy2 => (intro w hSw; (try dsimp only at hSw); go_simp; try with_reducible rfl)
  try simp only [Act.put, List.setIfInBounds_toArray, List.set_cons_zero, List.set_cons_succ]
  refine wpAnyH_take (i := 2) (oi := { dst := some 30, op := Op.move (Operand.tmp 1), type := 9, pos := "more.go:85", after := #[], guard := none }) (v := ?v3) rfl (by kernel_rfl) (by kernel_rfl) (by kernel_rfl) (fun _ _ _ h => h) (Or.inl ⟨by rfl, ?hy3⟩) (by assumption) ?_
  case hy3 => (intro w hSw; (try dsimp only at hSw); go_simp; try with_reducible rfl)
  try simp only [Act.put, List.setIfInBounds_toArray, List.set_cons_zero, List.set_cons_succ]
  refine wpAnyH_take (i := 3) (oi := { dst := some 31, op := Op.move (Operand.tmp 8), type := 22, pos := "more.go:85", after := #[], guard := none }) (v := ?v4) rfl (by kernel_rfl) (by kernel_rfl) (by kernel_rfl) (fun _ _ _ h => h) (Or.inl ⟨by rfl, ?hy4⟩) (by assumption) ?_
  case hy4 => (intro w hSw; (try dsimp only at hSw); go_simp; try with_reducible rfl)
  try simp only [Act.put, List.setIfInBounds_toArray, List.set_cons_zero, List.set_cons_succ]
  refine wpAnyH_ready (rs := [4]) (by kernel_rfl) (by simp) ?_
  refine AllReadyH.cons (o := { dst := some 32, op := Op.call { callee := Callee.value (Operand.func 26), args := #[Operand.tmp 28, Operand.tmp 29, Operand.tmp 30, Operand.tmp 31], argTypes := #[26, 9, 9, 22] }, type := 4, pos := "more.go:85", after := #[{ on := 0, ground := Ground.data }, { on := 1, ground := Ground.data }, { on := 2, ground := Ground.data }, { on := 3, ground := Ground.data }], guard := none }) rfl (fun K hK => ?_) AllReadyH.nil
  rw [if_pos (by rfl)]
  go_simp
  refine (HAL.out _ acc2 _ _ _ _ (HL.out.below acc2) (by first | (show 0 ≤ _; omega) | (dsimp only; omega) | omega | (simp; done))).mono ?_
  rintro e w4 ⟨rfl, hb⟩
  rw [HF1.out]
  replace acc2 := acc2.trans (hb.mono acc2.size)
  clear hb
  dsimp only
  refine hK.out _ _ (KP.out _ acc2) (fun hHeld => ?_)
  clear hK K
  try simp only [Act.put, List.setIfInBounds_toArray, List.set_cons_zero, List.set_cons_succ]
  refine wpAnyH_take (i := 5) (oi := { dst := some 33, op := Op.move (Operand.tmp 32), type := 4, pos := "more.go:85", after := #[{ on := 4, ground := Ground.data }, { on := 4, ground := Ground.chain }], guard := none }) (v := ?v5) rfl (by kernel_rfl) (by kernel_rfl) (by kernel_rfl) (fun _ _ _ h => h) (Or.inl ⟨by rfl, ?hy5⟩) (by assumption) ?_
  case hy5 => (intro w hSw; (try dsimp only at hSw); go_simp; try with_reducible rfl)
  try simp only [Act.put, List.setIfInBounds_toArray, List.set_cons_zero, List.set_cons_succ]
  refine wpAnyH_take (i := 6) (oi := { dst := some 34, op := Op.load 26 (Operand.tmp 7), type := 26, pos := "more.go:85", after := #[{ on := 5, ground := Ground.guard }], guard := some (5, true) }) (v := ?v6) rfl (by kernel_rfl) (by kernel_rfl) (by kernel_rfl) (fun _ _ _ h => h) (Or.inl ⟨by rfl, ?hy6⟩) (by assumption) ?_
  case hy6 => (intro w hSw; (try dsimp only at hSw); go_simp; try with_reducible rfl)
  try simp only [Act.put, List.setIfInBounds_toArray, List.set_cons_zero, List.set_cons_succ]
  refine wpAnyH_take (i := 7) (oi := { dst := some 35, op := Op.move (Operand.tmp 0), type := 9, pos := "more.go:85", after := #[{ on := 5, ground := Ground.guard }], guard := some (5, true) }) (v := ?v7) rfl (by kernel_rfl) (by kernel_rfl) (by kernel_rfl) (fun _ _ _ h => h) (Or.inl ⟨by rfl, ?hy7⟩) (by assumption) ?_
  case hy7 => (intro w hSw; (try dsimp only at hSw); go_simp; try with_reducible rfl)
  try simp only [Act.put, List.setIfInBounds_toArray, List.set_cons_zero, List.set_cons_succ]
  refine wpAnyH_take (i := 8) (oi := { dst := some 36, op := Op.move (Operand.tmp 1), type := 9, pos := "more.go:85", after := #[{ on := 5, ground := Ground.guard }], guard := some (5, true) }) (v := ?v8) rfl (by kernel_rfl) (by kernel_rfl) (by kernel_rfl) (fun _ _ _ h => h) (Or.inl ⟨by rfl, ?hy8⟩) (by assumption) ?_
  case hy8 => (intro w hSw; (try dsimp only at hSw); go_simp; try with_reducible rfl)
  try simp only [Act.put, List.setIfInBounds_toArray, List.set_cons_zero, List.set_cons_succ]
  refine wpAnyH_ready (rs := [9]) (by kernel_rfl) (by simp) ?_
  refine AllReadyH.cons (o := { dst := some 37, op := Op.call { callee := Callee.value (Operand.func 26), args := #[Operand.tmp 34, Operand.tmp 35, Operand.tmp 36, Operand.const (Value.slice none 0 0)], argTypes := #[26, 9, 9, 22] }, type := 4, pos := "more.go:85", after := #[{ on := 6, ground := Ground.data }, { on := 7, ground := Ground.data }, { on := 8, ground := Ground.data }, { on := 5, ground := Ground.chain }, { on := 5, ground := Ground.guard }], guard := some (5, true) }) rfl (fun K hK => ?_) AllReadyH.nil
  rw [if_pos (by rfl)]
  go_simp
  refine (HAL.out _ acc2 _ _ _ _ (At.nil _ _) (by first | (show 0 ≤ _; omega) | (dsimp only; omega) | omega | (simp; done))).mono ?_
  rintro e w9 ⟨rfl, hb⟩
  rw [HF2.out]
  replace acc2 := acc2.trans (hb.mono acc2.size)
  clear hb
  dsimp only
  refine hK.out _ _ (KP.out _ acc2) (fun hHeld => ?_)
  clear hK K
  try simp only [Act.put, List.setIfInBounds_toArray, List.set_cons_zero, List.set_cons_succ]
  refine wpAnyH_take (i := 10) (oi := { dst := some 38, op := Op.pick (Operand.tmp 33) (Operand.tmp 37) (Operand.const (Value.bool false)), type := 4, pos := "more.go:85", after := #[{ on := 5, ground := Ground.data }, { on := 9, ground := Ground.data }], guard := none }) (v := ?v9) rfl (by kernel_rfl) (by kernel_rfl) (by kernel_rfl) (fun _ _ _ h => h) (Or.inl ⟨by rfl, ?hy9⟩) (by assumption) ?_
  case hy9 => (intro w hSw; (try dsimp only at hSw); go_simp; try with_reducible rfl)
  try simp only [Act.put, List.setIfInBounds_toArray, List.set_cons_zero, List.set_cons_succ]
  refine wpAnyH_take (i := 11) (oi := { dst := some 39, op := Op.move (Operand.tmp 38), type := 4, pos := "more.go:85", after := #[{ on := 10, ground := Ground.data }, { on := 9, ground := Ground.chain }], guard := none }) (v := ?v10) rfl (by kernel_rfl) (by kernel_rfl) (by kernel_rfl) (fun _ _ _ h => h) (Or.inl ⟨by rfl, ?hy10⟩) (by assumption) ?_
  case hy10 => (intro w hSw; (try dsimp only at hSw); go_simp; try with_reducible rfl)
  try simp only [Act.put, List.setIfInBounds_toArray, List.set_cons_zero, List.set_cons_succ]
  refine wpAnyH_take (i := 12) (oi := { dst := some 40, op := Op.load 26 (Operand.tmp 7), type := 26, pos := "more.go:85", after := #[{ on := 11, ground := Ground.guard }], guard := some (11, true) }) (v := ?v11) rfl (by kernel_rfl) (by kernel_rfl) (by kernel_rfl) (fun _ _ _ h => h) (Or.inl ⟨by rfl, ?hy11⟩) (by assumption) ?_
  case hy11 => (intro w hSw; (try dsimp only at hSw); go_simp; try with_reducible rfl)
  try simp only [Act.put, List.setIfInBounds_toArray, List.set_cons_zero, List.set_cons_succ]
  refine wpAnyH_take (i := 13) (oi := { dst := some 41, op := Op.move (Operand.tmp 0), type := 9, pos := "more.go:85", after := #[{ on := 11, ground := Ground.guard }], guard := some (11, true) }) (v := ?v12) rfl (by kernel_rfl) (by kernel_rfl) (by kernel_rfl) (fun _ _ _ h => h) (Or.inl ⟨by rfl, ?hy12⟩) (by assumption) ?_
  case hy12 => (intro w hSw; (try dsimp only at hSw); go_simp; try with_reducible rfl)
  try simp only [Act.put, List.setIfInBounds_toArray, List.set_cons_zero, List.set_cons_succ]
  refine wpAnyH_take (i := 14) (oi := { dst := some 42, op := Op.move (Operand.tmp 1), type := 9, pos := "more.go:85", after := #[{ on := 11, ground := Ground.guard }], guard := some (11, true) }) (v := ?v13) rfl (by kernel_rfl) (by kernel_rfl) (by kernel_rfl) (fun _ _ _ h => h) (Or.inl ⟨by rfl, ?hy13⟩) (by assumption) ?_
  case hy13 => (intro w hSw; (try dsimp only at hSw); go_simp; try with_reducible rfl)
  try simp only [Act.put, List.setIfInBounds_toArray, List.set_cons_zero, List.set_cons_succ]
  refine wpAnyH_take (i := 15) (oi := { dst := some 43, op := Op.move (Operand.tmp 2), type := 9, pos := "more.go:85", after := #[{ on := 11, ground := Ground.guard }], guard := some (11, true) }) (v := ?v14) rfl (by kernel_rfl) (by kernel_rfl) (by kernel_rfl) (fun _ _ _ h => h) (Or.inl ⟨by rfl, ?hy14⟩) (by assumption) ?_
  case hy14 => (intro w hSw; (try dsimp only at hSw); go_simp; try with_reducible rfl)
  try simp only [Act.put, List.setIfInBounds_toArray, List.set_cons_zero, List.set_cons_succ]
  refine wpAnyH_take (i := 18) (oi := { dst := some 46, op := Op.move (Operand.tmp 8), type := 22, pos := "more.go:85", after := #[{ on := 11, ground := Ground.guard }], guard := some (11, true) }) (v := ?v15) rfl (by kernel_rfl) (by kernel_rfl) (by kernel_rfl) (fun _ _ _ h => h) (Or.inl ⟨by rfl, ?hy15⟩) (by assumption) ?_
  case hy15 => (intro w hSw; (try dsimp only at hSw); go_simp; try with_reducible rfl)
  try simp only [Act.put, List.setIfInBounds_toArray, List.set_cons_zero, List.set_cons_succ]
  refine wpAnyH_take (i := 19) (oi := { dst := some 47, op := Op.move (Operand.tmp 2), type := 9, pos := "more.go:85", after := #[{ on := 11, ground := Ground.guard }], guard := some (11, true) }) (v := ?v16) rfl (by kernel_rfl) (by kernel_rfl) (by kernel_rfl) (fun _ _ _ h => h) (Or.inl ⟨by rfl, ?hy16⟩) (by assumption) ?_
  case hy16 => (intro w hSw; (try dsimp only at hSw); go_simp; try with_reducible rfl)
  try simp only [Act.put, List.setIfInBounds_toArray, List.set_cons_zero, List.set_cons_succ]
  refine wpAnyH_ready (rs := [16]) (by kernel_rfl) (by simp) ?_
  refine AllReadyH.cons (o := { dst := some 44, op := Op.buildSlice 22 1 #[(0, Operand.tmp 43)], type := 22, pos := "more.go:85", after := #[{ on := 15, ground := Ground.data }, { on := 11, ground := Ground.guard }], guard := some (11, true) }) rfl (fun K hK => ?_) AllReadyH.nil
  rw [if_pos (by rfl)]
  go_simp
  obtain ⟨wb16, hwb16⟩ : ∃ W, W = w9.alloc (.cells #[.string r] 9) := ⟨_, rfl⟩
  rw [← hwb16]
  have hk16 : wb16.heap[w9.heap.size]? = some (.cells #[.string r] 9 (0, 0)) := by rw [hwb16]; exact heap_alloc_new _ _
  have hz16 : w9.heap.size < wb16.heap.size := by rw [hwb16]; simp
  have hbe : Below w9.heap.size w9 wb16 := by rw [hwb16]; exact (Below.refl _ _).alloc (Nat.le_refl _) _
  replace acc2 := acc2.trans (hbe.mono acc2.size)
  clear hbe hwb16
  refine hK.out _ _ (KP.out _ acc2) (fun hHeld => ?_)
  clear hK K
  try simp only [Act.put, List.setIfInBounds_toArray, List.set_cons_zero, List.set_cons_succ]
  refine wpAnyH_ready (rs := [17]) (by kernel_rfl) (by simp) ?_
  refine AllReadyH.cons (o := { dst := some 45, op := Op.call { callee := Callee.value (Operand.func 26), args := #[Operand.tmp 40, Operand.tmp 41, Operand.tmp 42, Operand.tmp 44], argTypes := #[26, 9, 9, 22] }, type := 4, pos := "more.go:85", after := #[{ on := 12, ground := Ground.data }, { on := 13, ground := Ground.data }, { on := 14, ground := Ground.data }, { on := 16, ground := Ground.data }, { on := 11, ground := Ground.chain }, { on := 11, ground := Ground.guard }], guard := some (11, true) }) rfl (fun K hK => ?_) AllReadyH.nil
  rw [if_pos (by rfl)]
  go_simp
  refine (HAL.out _ acc2 _ _ _ _ (at_block (l := [r.data.toList]) hk16) (by first | (show 0 ≤ _; omega) | (dsimp only; omega) | omega | (simp; done))).mono ?_
  rintro e w17 ⟨rfl, hb⟩
  rw [HF3.out]
  replace acc2 := acc2.trans (hb.mono acc2.size)
  clear hb
  dsimp only
  refine hK.out _ _ (KP.out _ acc2) (fun hHeld => ?_)
  clear hK K
  try simp only [Act.put, List.setIfInBounds_toArray, List.set_cons_zero, List.set_cons_succ]
  refine wpAnyH_ready (rs := [20]) (by kernel_rfl) (by simp) ?_
  refine AllReadyH.cons (o := { dst := some 48, op := Op.call { callee := Callee.value (Operand.func 18), args := #[Operand.tmp 46, Operand.tmp 47], argTypes := #[22, 9] }, type := 3, pos := "more.go:85", after := #[{ on := 18, ground := Ground.data }, { on := 19, ground := Ground.data }, { on := 17, ground := Ground.chain }, { on := 11, ground := Ground.guard }], guard := some (11, true) }) rfl (fun K hK => ?_) AllReadyH.nil
  rw [if_pos (by rfl)]
  go_simp
  refine (place_any _ adl n cl (betOf a.data.toList b.data.toList) r (HL.out.below acc2) (by omega)).mono ?_
  rintro e w20 ⟨rfl, hq⟩
  replace acc2 := (show Below wl.heap.size wl w20 by obtain ⟨q, rfl⟩ := hq; exact below_drewN acc2 q)
  clear hq
  rw [HPL.out]
  dsimp only
  refine hK.out _ _ (KP.out _ acc2) (fun hHeld => ?_)
  clear hK K
  try simp only [Act.put, List.setIfInBounds_toArray, List.set_cons_zero, List.set_cons_succ]
  refine wpAnyH_take (i := 21) (oi := { dst := some 49, op := Op.binOp BinOp.geq 3 (Operand.tmp 48) (Operand.const (Value.int IntKind.i64 0)) 3, type := 4, pos := "more.go:85", after := #[{ on := 20, ground := Ground.data }, { on := 11, ground := Ground.guard }], guard := some (11, true) }) (v := ?v17) rfl (by kernel_rfl) (by kernel_rfl) (by kernel_rfl) (fun _ _ _ h => h) (Or.inl ⟨by rfl, ?hy17⟩) (by assumption) ?_
  case hy17 => (intro w hSw; (try dsimp only at hSw); go_simp; try with_reducible rfl)
  try simp only [Act.put, List.setIfInBounds_toArray, List.set_cons_zero, List.set_cons_succ]
  refine wpAnyH_take (i := 22) (oi := { dst := some 50, op := Op.binOp BinOp.eql 4 (Operand.tmp 45) (Operand.tmp 49) 4, type := 4, pos := "more.go:85", after := #[{ on := 17, ground := Ground.data }, { on := 21, ground := Ground.data }, { on := 11, ground := Ground.guard }], guard := some (11, true) }) (v := ?v18) rfl (by kernel_rfl) (by kernel_rfl) (by kernel_rfl) (fun _ _ _ h => h) (Or.inl ⟨by rfl, ?hy18⟩) (by assumption) ?_
  case hy18 => (intro w hSw; (try dsimp only at hSw); go_simp; try with_reducible rfl)
  try simp only [Act.put, List.setIfInBounds_toArray, List.set_cons_zero, List.set_cons_succ]
  refine wpAnyH_take (i := 23) (oi := { dst := some 51, op := Op.pick (Operand.tmp 39) (Operand.tmp 50) (Operand.const (Value.bool false)), type := 4, pos := "more.go:85", after := #[{ on := 11, ground := Ground.data }, { on := 22, ground := Ground.data }], guard := none }) (v := ?v19) rfl (by kernel_rfl) (by kernel_rfl) (by kernel_rfl) (fun _ _ _ h => h) (Or.inl ⟨by rfl, ?hy19⟩) (by assumption) ?_
  case hy19 => (intro w hSw; (try dsimp only at hSw); go_simp; try with_reducible rfl)
  try simp only [Act.put, List.setIfInBounds_toArray, List.set_cons_zero, List.set_cons_succ]
  refine wpAnyH_take (i := 24) (oi := { dst := some 52, op := Op.move (Operand.tmp 51), type := 4, pos := "more.go:85", after := #[{ on := 23, ground := Ground.data }, { on := 20, ground := Ground.chain }], guard := none }) (v := ?v20) rfl (by kernel_rfl) (by kernel_rfl) (by kernel_rfl) (fun _ _ _ h => h) (Or.inl ⟨by rfl, ?hy20⟩) (by assumption) ?_
  case hy20 => (intro w hSw; (try dsimp only at hSw); go_simp; try with_reducible rfl)
  try simp only [Act.put, List.setIfInBounds_toArray, List.set_cons_zero, List.set_cons_succ]
  refine wpAnyH_take (i := 25) (oi := { dst := some 53, op := Op.load 26 (Operand.tmp 7), type := 26, pos := "more.go:85", after := #[{ on := 24, ground := Ground.guard }], guard := some (24, true) }) (v := ?v21) rfl (by kernel_rfl) (by kernel_rfl) (by kernel_rfl) (fun _ _ _ h => h) (Or.inl ⟨by rfl, ?hy21⟩) (by assumption) ?_
  case hy21 => (intro w hSw; (try dsimp only at hSw); go_simp; try with_reducible rfl)
  try simp only [Act.put, List.setIfInBounds_toArray, List.set_cons_zero, List.set_cons_succ]
  refine wpAnyH_take (i := 26) (oi := { dst := some 54, op := Op.move (Operand.tmp 0), type := 9, pos := "more.go:85", after := #[{ on := 24, ground := Ground.guard }], guard := some (24, true) }) (v := ?v22) rfl (by kernel_rfl) (by kernel_rfl) (by kernel_rfl) (fun _ _ _ h => h) (Or.inl ⟨by rfl, ?hy22⟩) (by assumption) ?_
  case hy22 => (intro w hSw; (try dsimp only at hSw); go_simp; try with_reducible rfl)
  try simp only [Act.put, List.setIfInBounds_toArray, List.set_cons_zero, List.set_cons_succ]
  refine wpAnyH_take (i := 27) (oi := { dst := some 55, op := Op.move (Operand.tmp 1), type := 9, pos := "more.go:85", after := #[{ on := 24, ground := Ground.guard }], guard := some (24, true) }) (v := ?v23) rfl (by kernel_rfl) (by kernel_rfl) (by kernel_rfl) (fun _ _ _ h => h) (Or.inl ⟨by rfl, ?hy23⟩) (by assumption) ?_
  case hy23 => (intro w hSw; (try dsimp only at hSw); go_simp; try with_reducible rfl)
  try simp only [Act.put, List.setIfInBounds_toArray, List.set_cons_zero, List.set_cons_succ]
  refine wpAnyH_take (i := 29) (oi := { dst := some 57, op := Op.move (Operand.tmp 8), type := 22, pos := "more.go:85", after := #[{ on := 24, ground := Ground.guard }], guard := some (24, true) }) (v := ?v24) rfl (by kernel_rfl) (by kernel_rfl) (by kernel_rfl) (fun _ _ _ h => h) (Or.inl ⟨by rfl, ?hy24⟩) (by assumption) ?_
  case hy24 => (intro w hSw; (try dsimp only at hSw); go_simp; try with_reducible rfl)
  try simp only [Act.put, List.setIfInBounds_toArray, List.set_cons_zero, List.set_cons_succ]
  refine wpAnyH_take (i := 31) (oi := { dst := some 59, op := Op.move (Operand.tmp 0), type := 9, pos := "more.go:85", after := #[{ on := 24, ground := Ground.guard }], guard := some (24, true) }) (v := ?v25) rfl (by kernel_rfl) (by kernel_rfl) (by kernel_rfl) (fun _ _ _ h => h) (Or.inl ⟨by rfl, ?hy25⟩) (by assumption) ?_
  case hy25 => (intro w hSw; (try dsimp only at hSw); go_simp; try with_reducible rfl)
  try simp only [Act.put, List.setIfInBounds_toArray, List.set_cons_zero, List.set_cons_succ]
  refine wpAnyH_ready (rs := [28, 32]) (by kernel_rfl) (by simp) ?_
  refine AllReadyH.cons (o := { dst := some 56, op := Op.buildSlice 22 0 #[], type := 22, pos := "more.go:85", after := #[{ on := 24, ground := Ground.guard }], guard := some (24, true) }) rfl ?_ (AllReadyH.cons (o := { dst := some 60, op := Op.buildSlice 22 1 #[(0, Operand.tmp 59)], type := 22, pos := "more.go:85", after := #[{ on := 31, ground := Ground.data }, { on := 24, ground := Ground.guard }], guard := some (24, true) }) rfl ?_ (AllReadyH.nil))
  · intro K hK
    rw [if_pos (by rfl)]
    go_simp
    obtain ⟨wb28, hwb28⟩ : ∃ W, W = w20.alloc (.cells #[] 9) := ⟨_, rfl⟩
    rw [← hwb28]
    have hrow : wb28.ownsRow w20.heap.size 9 1 (.slice (some ⟨w20.heap.size, 0, none⟩) 0 0) 0 (strs []) := ⟨rfl, Or.inr ⟨w20.heap.size, 0, #[], rfl, Nat.le_refl _, by rw [hwb28]; exact heap_alloc_new _ _, Nat.le_refl _, by unfold maxLen; omega, rfl, rfl⟩⟩
    have hz28 : w20.heap.size < wb28.heap.size := by rw [hwb28]; simp
    have hbs := acc2.size
    have hbe : Below w20.heap.size w20 wb28 := by rw [hwb28]; exact (Below.refl _ _).alloc (Nat.le_refl _) _
    replace acc2 := acc2.trans (hbe.mono acc2.size)
    clear hbe hwb28
    refine hK.out _ _ (KP.out _ acc2) (fun hHeld => ?_)
    clear hK K
    try simp only [Act.put, List.setIfInBounds_toArray, List.set_cons_zero, List.set_cons_succ]
    refine wpAnyH_ready (rs := [30, 32]) (by kernel_rfl) (by simp) ?_
    refine AllReadyH.cons (o := { dst := some 58, op := Op.call { callee := Callee.builtin Builtin.append, args := #[Operand.tmp 56, Operand.tmp 57], argTypes := #[22, 22] }, type := 22, pos := "more.go:85", after := #[{ on := 28, ground := Ground.data }, { on := 29, ground := Ground.data }, { on := 24, ground := Ground.chain }, { on := 24, ground := Ground.guard }], guard := some (24, true) }) rfl ?_ (AllReadyH.cons (o := { dst := some 60, op := Op.buildSlice 22 1 #[(0, Operand.tmp 59)], type := 22, pos := "more.go:85", after := #[{ on := 31, ground := Ground.data }, { on := 24, ground := Ground.guard }], guard := some (24, true) }) rfl ?_ (AllReadyH.nil))
    · intro K hK
      rw [if_pos (by rfl)]
      refine wpOp_append_texts _ (.tmp 56) (.tmp 57) rfl w20.heap.size _ 0 _ [] rfl hrow adl n cl (betOf a.data.toList b.data.toList) rfl (HL.out.below acc2) (by omega) (by omega) (by omega) ?_
      intro ad30 c30 w30 hrow30 hb30 hgr30
      replace acc2 := acc2.trans (hb30.mono hbs)
      have hz30 := hgr30.size
      clear hb30 hgr30 hrow
      have hrow := hrow30
      clear hrow30
      rw [List.nil_append, Nat.zero_add] at hrow
      rw [Nat.zero_add]
      refine hK.out _ _ (KP.out _ acc2) (fun hHeld => ?_)
      clear hK K
      try simp only [Act.put, List.setIfInBounds_toArray, List.set_cons_zero, List.set_cons_succ]
      refine wpAnyH_ready (rs := [32]) (by kernel_rfl) (by simp) ?_
      refine AllReadyH.cons (o := { dst := some 60, op := Op.buildSlice 22 1 #[(0, Operand.tmp 59)], type := 22, pos := "more.go:85", after := #[{ on := 31, ground := Ground.data }, { on := 24, ground := Ground.guard }], guard := some (24, true) }) rfl (fun K hK => ?_) AllReadyH.nil
      rw [if_pos (by rfl)]
      go_simp
      obtain ⟨wb32, hwb32⟩ : ∃ W, W = w30.alloc (.cells #[.string a] 9) := ⟨_, rfl⟩
      rw [← hwb32]
      have hk32 : wb32.heap[w30.heap.size]? = some (.cells #[.string a] 9 (0, 0)) := by rw [hwb32]; exact heap_alloc_new _ _
      have hz32 : w30.heap.size < wb32.heap.size := by rw [hwb32]; simp
      have hrow2 := hrow.alloc (.cells #[.string a] 9)
      rw [← hwb32] at hrow2
      clear hrow
      have hrow := hrow2
      clear hrow2
      have hbe : Below w30.heap.size w30 wb32 := by rw [hwb32]; exact (Below.refl _ _).alloc (Nat.le_refl _) _
      replace acc2 := acc2.trans (hbe.mono acc2.size)
      clear hbe hwb32
      refine hK.out _ _ (KP.out _ acc2) (fun hHeld => ?_)
      clear hK K
      try simp only [Act.put, List.setIfInBounds_toArray, List.set_cons_zero, List.set_cons_succ]
      refine wpAnyH_ready (rs := [33]) (by kernel_rfl) (by simp) ?_
      refine AllReadyH.cons (o := { dst := some 61, op := Op.call { callee := Callee.builtin Builtin.append, args := #[Operand.tmp 58, Operand.tmp 60], argTypes := #[22, 22] }, type := 22, pos := "more.go:85", after := #[{ on := 30, ground := Ground.data }, { on := 32, ground := Ground.data }, { on := 30, ground := Ground.chain }, { on := 24, ground := Ground.guard }], guard := some (24, true) }) rfl (fun K hK => ?_) AllReadyH.nil
      rw [if_pos (by rfl)]
      refine wpOp_append_texts _ (.tmp 58) (.tmp 60) rfl w20.heap.size _ n _ (betOf a.data.toList b.data.toList) rfl hrow (some ⟨w30.heap.size, 0, none⟩) 1 1 [a.data.toList] rfl (at_block (l := [a.data.toList]) hk32) (by omega) (by omega) (by omega) ?_
      intro ad33 c33 w33 hrow33 hb33 hgr33
      replace acc2 := acc2.trans (hb33.mono hbs)
      have hA33 := At.owns hrow33
      clear hb33 hgr33 hrow hrow33
      refine hK.out _ _ (KP.out _ acc2) (fun hHeld => ?_)
      clear hK K
      try simp only [Act.put, List.setIfInBounds_toArray, List.set_cons_zero, List.set_cons_succ]
      refine wpAnyH_ready (rs := [34]) (by kernel_rfl) (by simp) ?_
      refine AllReadyH.cons (o := { dst := some 62, op := Op.call { callee := Callee.value (Operand.func 26), args := #[Operand.tmp 53, Operand.tmp 54, Operand.tmp 55, Operand.tmp 61], argTypes := #[26, 9, 9, 22] }, type := 4, pos := "more.go:85", after := #[{ on := 25, ground := Ground.data }, { on := 26, ground := Ground.data }, { on := 27, ground := Ground.data }, { on := 33, ground := Ground.data }, { on := 33, ground := Ground.chain }, { on := 24, ground := Ground.guard }], guard := some (24, true) }) rfl (fun K hK => ?_) AllReadyH.nil
      rw [if_pos (by rfl)]
      go_simp
      refine (HAL.out _ acc2 _ _ _ _ (hA33) (by first | (show 0 ≤ _; omega) | (dsimp only; omega) | omega | (simp; done))).mono ?_
      rintro e w34 ⟨rfl, hb⟩
      rw [HF4.out]
      replace acc2 := acc2.trans (hb.mono acc2.size)
      clear hb
      dsimp only
      refine hK.out _ _ (KP.out _ acc2) (fun hHeld => ?_)
      clear hK K
      try simp only [Act.put, List.setIfInBounds_toArray, List.set_cons_zero, List.set_cons_succ]
      refine wpAnyH_take (i := 35) (oi := { dst := some 63, op := Op.unOp UnOp.not 4 (Operand.tmp 62), type := 4, pos := "more.go:85", after := #[{ on := 34, ground := Ground.data }, { on := 24, ground := Ground.guard }], guard := some (24, true) }) (v := ?v26) rfl (by kernel_rfl) (by kernel_rfl) (by kernel_rfl) (fun _ _ _ h => h) (Or.inl ⟨by rfl, ?hy26⟩) (by assumption) ?_
      case hy26 => (intro w hSw; (try dsimp only at hSw); go_simp; try with_reducible rfl)
      try simp only [Act.put, List.setIfInBounds_toArray, List.set_cons_zero, List.set_cons_succ]
      refine wpAnyH_take (i := 36) (oi := { dst := some 64, op := Op.pick (Operand.tmp 52) (Operand.tmp 63) (Operand.const (Value.bool false)), type := 4, pos := "more.go:85", after := #[{ on := 24, ground := Ground.data }, { on := 35, ground := Ground.data }], guard := none }) (v := ?v27) rfl (by kernel_rfl) (by kernel_rfl) (by kernel_rfl) (fun _ _ _ h => h) (Or.inl ⟨by rfl, ?hy27⟩) (by assumption) ?_
      case hy27 => (intro w hSw; (try dsimp only at hSw); go_simp; try with_reducible rfl)
      try simp only [Act.put, List.setIfInBounds_toArray, List.set_cons_zero, List.set_cons_succ]
      refine wpAnyH_take (i := 37) (oi := { dst := some 65, op := Op.move (Operand.tmp 64), type := 4, pos := "more.go:85", after := #[{ on := 36, ground := Ground.data }, { on := 34, ground := Ground.chain }], guard := none }) (v := ?v28) rfl (by kernel_rfl) (by kernel_rfl) (by kernel_rfl) (fun _ _ _ h => h) (Or.inl ⟨by rfl, ?hy28⟩) (by assumption) ?_
      case hy28 => (intro w hSw; (try dsimp only at hSw); go_simp; try with_reducible rfl)
      try simp only [Act.put, List.setIfInBounds_toArray, List.set_cons_zero, List.set_cons_succ]
      refine wpAnyH_ready (rs := [38]) (by kernel_rfl) (by simp) ?_
      refine AllReadyH.cons (o := { dst := some 66, op := Op.call { callee := Callee.value (Operand.func 14), args := #[], argTypes := #[] }, type := 4, pos := "more.go:85", after := #[{ on := 37, ground := Ground.chain }, { on := 37, ground := Ground.guard }], guard := some (37, true) }) rfl (fun K hK => ?_) AllReadyH.nil
      rw [if_pos (by rfl)]
      go_simp
      refine (known_any _ (HG.out.below (ACL.out.trans (acc2.mono ACL.out.size)))).mono ?_
      rintro e w38 ⟨rfl, hb⟩
      replace acc2 := acc2.trans (hb.mono acc2.size)
      clear hb
      dsimp only
      refine hK.out _ _ (KP.out _ acc2) (fun hHeld => ?_)
      clear hK K
      try simp only [Act.put, List.setIfInBounds_toArray, List.set_cons_zero, List.set_cons_succ]
      refine wpAnyH_take (i := 39) (oi := { dst := some 67, op := Op.pick (Operand.tmp 65) (Operand.tmp 66) (Operand.const (Value.bool false)), type := 4, pos := "more.go:85", after := #[{ on := 37, ground := Ground.data }, { on := 38, ground := Ground.data }], guard := none }) (v := ?v29) rfl (by kernel_rfl) (by kernel_rfl) (by kernel_rfl) (fun _ _ _ h => h) (Or.inl ⟨by rfl, ?hy29⟩) (by assumption) ?_
      case hy29 => (intro w hSw; (try dsimp only at hSw); go_simp; try with_reducible rfl)
      try simp only [Act.put, List.setIfInBounds_toArray, List.set_cons_zero, List.set_cons_succ]
      refine wpAnyH_take (i := 40) (oi := { dst := some 6, op := Op.assign (Operand.tmp 67), type := 4, pos := "more.go:85", after := #[{ on := 39, ground := Ground.data }, { on := 38, ground := Ground.chain }, { on := 0, ground := Ground.phase }, { on := 1, ground := Ground.phase }, { on := 2, ground := Ground.phase }, { on := 3, ground := Ground.phase }, { on := 4, ground := Ground.phase }, { on := 5, ground := Ground.phase }, { on := 6, ground := Ground.phase }, { on := 7, ground := Ground.phase }, { on := 8, ground := Ground.phase }, { on := 9, ground := Ground.phase }, { on := 10, ground := Ground.phase }, { on := 11, ground := Ground.phase }, { on := 12, ground := Ground.phase }, { on := 13, ground := Ground.phase }, { on := 14, ground := Ground.phase }, { on := 15, ground := Ground.phase }, { on := 16, ground := Ground.phase }, { on := 17, ground := Ground.phase }, { on := 18, ground := Ground.phase }, { on := 19, ground := Ground.phase }, { on := 20, ground := Ground.phase }, { on := 21, ground := Ground.phase }, { on := 22, ground := Ground.phase }, { on := 23, ground := Ground.phase }, { on := 24, ground := Ground.phase }, { on := 25, ground := Ground.phase }, { on := 26, ground := Ground.phase }, { on := 27, ground := Ground.phase }, { on := 28, ground := Ground.phase }, { on := 29, ground := Ground.phase }, { on := 30, ground := Ground.phase }, { on := 31, ground := Ground.phase }, { on := 32, ground := Ground.phase }, { on := 33, ground := Ground.phase }, { on := 34, ground := Ground.phase }, { on := 35, ground := Ground.phase }, { on := 36, ground := Ground.phase }, { on := 37, ground := Ground.phase }, { on := 38, ground := Ground.phase }, { on := 39, ground := Ground.phase }], guard := none }) (v := ?v30) rfl (by kernel_rfl) (by kernel_rfl) (by kernel_rfl) (fun _ _ _ h => h) (Or.inl ⟨by rfl, ?hy30⟩) (by assumption) ?_
      case hy30 => (intro w hSw; (try dsimp only at hSw); go_simp; try with_reducible rfl)
      try simp only [Act.put, List.setIfInBounds_toArray, List.set_cons_zero, List.set_cons_succ]
      refine wpAnyH_done (by kernel_rfl) ?_ _
      go_wp2
      go_ret
      exact ⟨rfl, ACC.out.trans ((ACL.out.trans (acc2.mono ACL.out.size)).mono ACC.out.size)⟩
    · intro K hK
      rw [if_pos (by rfl)]
      go_simp
      obtain ⟨wb32, hwb32⟩ : ∃ W, W = wb28.alloc (.cells #[.string a] 9) := ⟨_, rfl⟩
      rw [← hwb32]
      have hk32 : wb32.heap[wb28.heap.size]? = some (.cells #[.string a] 9 (0, 0)) := by rw [hwb32]; exact heap_alloc_new _ _
      have hz32 : wb28.heap.size < wb32.heap.size := by rw [hwb32]; simp
      have hrow2 := hrow.alloc (.cells #[.string a] 9)
      rw [← hwb32] at hrow2
      clear hrow
      have hrow := hrow2
      clear hrow2
      have hbe : Below wb28.heap.size wb28 wb32 := by rw [hwb32]; exact (Below.refl _ _).alloc (Nat.le_refl _) _
      replace acc2 := acc2.trans (hbe.mono acc2.size)
      clear hbe hwb32
      refine hK.out _ _ (KP.out _ acc2) (fun hHeld => ?_)
      clear hK K
      try simp only [Act.put, List.setIfInBounds_toArray, List.set_cons_zero, List.set_cons_succ]
      refine wpAnyH_ready (rs := [30]) (by kernel_rfl) (by simp) ?_
      refine AllReadyH.cons (o := { dst := some 58, op := Op.call { callee := Callee.builtin Builtin.append, args := #[Operand.tmp 56, Operand.tmp 57], argTypes := #[22, 22] }, type := 22, pos := "more.go:85", after := #[{ on := 28, ground := Ground.data }, { on := 29, ground := Ground.data }, { on := 24, ground := Ground.chain }, { on := 24, ground := Ground.guard }], guard := some (24, true) }) rfl (fun K hK => ?_) AllReadyH.nil
      rw [if_pos (by rfl)]
      refine wpOp_append_texts _ (.tmp 56) (.tmp 57) rfl w20.heap.size _ 0 _ [] rfl hrow adl n cl (betOf a.data.toList b.data.toList) rfl (HL.out.below acc2) (by omega) (by omega) (by omega) ?_
      intro ad30 c30 w30 hrow30 hb30 hgr30
      replace acc2 := acc2.trans (hb30.mono hbs)
      have hk32b := (hgr30.block (wb28.heap.size) (by omega) (by simp only [Value.ownBlock, ne_eq, Option.some.injEq]; omega)).trans hk32
      clear hk32
      have hk32 := hk32b
      clear hk32b
      have hz30 := hgr30.size
      clear hb30 hgr30 hrow
      have hrow := hrow30
      clear hrow30
      rw [List.nil_append, Nat.zero_add] at hrow
      rw [Nat.zero_add]
      refine hK.out _ _ (KP.out _ acc2) (fun hHeld => ?_)
      clear hK K
      try simp only [Act.put, List.setIfInBounds_toArray, List.set_cons_zero, List.set_cons_succ]
      refine wpAnyH_ready (rs := [33]) (by kernel_rfl) (by simp) ?_
      refine AllReadyH.cons (o := { dst := some 61, op := Op.call { callee := Callee.builtin Builtin.append, args := #[Operand.tmp 58, Operand.tmp 60], argTypes := #[22, 22] }, type := 22, pos := "more.go:85", after := #[{ on := 30, ground := Ground.data }, { on := 32, ground := Ground.data }, { on := 30, ground := Ground.chain }, { on := 24, ground := Ground.guard }], guard := some (24, true) }) rfl (fun K hK => ?_) AllReadyH.nil
      rw [if_pos (by rfl)]
      refine wpOp_append_texts _ (.tmp 58) (.tmp 60) rfl w20.heap.size _ n _ (betOf a.data.toList b.data.toList) rfl hrow (some ⟨wb28.heap.size, 0, none⟩) 1 1 [a.data.toList] rfl (at_block (l := [a.data.toList]) hk32) (by omega) (by omega) (by omega) ?_
      intro ad33 c33 w33 hrow33 hb33 hgr33
      replace acc2 := acc2.trans (hb33.mono hbs)
      have hA33 := At.owns hrow33
      clear hb33 hgr33 hrow hrow33
      refine hK.out _ _ (KP.out _ acc2) (fun hHeld => ?_)
      clear hK K
      try simp only [Act.put, List.setIfInBounds_toArray, List.set_cons_zero, List.set_cons_succ]
      refine wpAnyH_ready (rs := [34]) (by kernel_rfl) (by simp) ?_
      refine AllReadyH.cons (o := { dst := some 62, op := Op.call { callee := Callee.value (Operand.func 26), args := #[Operand.tmp 53, Operand.tmp 54, Operand.tmp 55, Operand.tmp 61], argTypes := #[26, 9, 9, 22] }, type := 4, pos := "more.go:85", after := #[{ on := 25, ground := Ground.data }, { on := 26, ground := Ground.data }, { on := 27, ground := Ground.data }, { on := 33, ground := Ground.data }, { on := 33, ground := Ground.chain }, { on := 24, ground := Ground.guard }], guard := some (24, true) }) rfl (fun K hK => ?_) AllReadyH.nil
      rw [if_pos (by rfl)]
      go_simp
      refine (HAL.out _ acc2 _ _ _ _ (hA33) (by first | (show 0 ≤ _; omega) | (dsimp only; omega) | omega | (simp; done))).mono ?_
      rintro e w34 ⟨rfl, hb⟩
      rw [HF4.out]
      replace acc2 := acc2.trans (hb.mono acc2.size)
      clear hb
      dsimp only
      refine hK.out _ _ (KP.out _ acc2) (fun hHeld => ?_)
      clear hK K
      try simp only [Act.put, List.setIfInBounds_toArray, List.set_cons_zero, List.set_cons_succ]
      refine wpAnyH_take (i := 35) (oi := { dst := some 63, op := Op.unOp UnOp.not 4 (Operand.tmp 62), type := 4, pos := "more.go:85", after := #[{ on := 34, ground := Ground.data }, { on := 24, ground := Ground.guard }], guard := some (24, true) }) (v := ?v31) rfl (by kernel_rfl) (by kernel_rfl) (by kernel_rfl) (fun _ _ _ h => h) (Or.inl ⟨by rfl, ?hy31⟩) (by assumption) ?_
      case hy31 => (intro w hSw; (try dsimp only at hSw); go_simp; try with_reducible rfl)
      try simp only [Act.put, List.setIfInBounds_toArray, List.set_cons_zero, List.set_cons_succ]
      refine wpAnyH_take (i := 36) (oi := { dst := some 64, op := Op.pick (Operand.tmp 52) (Operand.tmp 63) (Operand.const (Value.bool false)), type := 4, pos := "more.go:85", after := #[{ on := 24, ground := Ground.data }, { on := 35, ground := Ground.data }], guard := none }) (v := ?v32) rfl (by kernel_rfl) (by kernel_rfl) (by kernel_rfl) (fun _ _ _ h => h) (Or.inl ⟨by rfl, ?hy32⟩) (by assumption) ?_
      case hy32 => (intro w hSw; (try dsimp only at hSw); go_simp; try with_reducible rfl)
      try simp only [Act.put, List.setIfInBounds_toArray, List.set_cons_zero, List.set_cons_succ]
      refine wpAnyH_take (i := 37) (oi := { dst := some 65, op := Op.move (Operand.tmp 64), type := 4, pos := "more.go:85", after := #[{ on := 36, ground := Ground.data }, { on := 34, ground := Ground.chain }], guard := none }) (v := ?v33) rfl (by kernel_rfl) (by kernel_rfl) (by kernel_rfl) (fun _ _ _ h => h) (Or.inl ⟨by rfl, ?hy33⟩) (by assumption) ?_
      case hy33 => (intro w hSw; (try dsimp only at hSw); go_simp; try with_reducible rfl)
      try simp only [Act.put, List.setIfInBounds_toArray, List.set_cons_zero, List.set_cons_succ]
      refine wpAnyH_ready (rs := [38]) (by kernel_rfl) (by simp) ?_
      refine AllReadyH.cons (o := { dst := some 66, op := Op.call { callee := Callee.value (Operand.func 14), args := #[], argTypes := #[] }, type := 4, pos := "more.go:85", after := #[{ on := 37, ground := Ground.chain }, { on := 37, ground := Ground.guard }], guard := some (37, true) }) rfl (fun K hK => ?_) AllReadyH.nil
      rw [if_pos (by rfl)]
      go_simp
      refine (known_any _ (HG.out.below (ACL.out.trans (acc2.mono ACL.out.size)))).mono ?_
      rintro e w38 ⟨rfl, hb⟩
      replace acc2 := acc2.trans (hb.mono acc2.size)
      clear hb
      dsimp only
      refine hK.out _ _ (KP.out _ acc2) (fun hHeld => ?_)
      clear hK K
      try simp only [Act.put, List.setIfInBounds_toArray, List.set_cons_zero, List.set_cons_succ]
      refine wpAnyH_take (i := 39) (oi := { dst := some 67, op := Op.pick (Operand.tmp 65) (Operand.tmp 66) (Operand.const (Value.bool false)), type := 4, pos := "more.go:85", after := #[{ on := 37, ground := Ground.data }, { on := 38, ground := Ground.data }], guard := none }) (v := ?v34) rfl (by kernel_rfl) (by kernel_rfl) (by kernel_rfl) (fun _ _ _ h => h) (Or.inl ⟨by rfl, ?hy34⟩) (by assumption) ?_
      case hy34 => (intro w hSw; (try dsimp only at hSw); go_simp; try with_reducible rfl)
      try simp only [Act.put, List.setIfInBounds_toArray, List.set_cons_zero, List.set_cons_succ]
      refine wpAnyH_take (i := 40) (oi := { dst := some 6, op := Op.assign (Operand.tmp 67), type := 4, pos := "more.go:85", after := #[{ on := 39, ground := Ground.data }, { on := 38, ground := Ground.chain }, { on := 0, ground := Ground.phase }, { on := 1, ground := Ground.phase }, { on := 2, ground := Ground.phase }, { on := 3, ground := Ground.phase }, { on := 4, ground := Ground.phase }, { on := 5, ground := Ground.phase }, { on := 6, ground := Ground.phase }, { on := 7, ground := Ground.phase }, { on := 8, ground := Ground.phase }, { on := 9, ground := Ground.phase }, { on := 10, ground := Ground.phase }, { on := 11, ground := Ground.phase }, { on := 12, ground := Ground.phase }, { on := 13, ground := Ground.phase }, { on := 14, ground := Ground.phase }, { on := 15, ground := Ground.phase }, { on := 16, ground := Ground.phase }, { on := 17, ground := Ground.phase }, { on := 18, ground := Ground.phase }, { on := 19, ground := Ground.phase }, { on := 20, ground := Ground.phase }, { on := 21, ground := Ground.phase }, { on := 22, ground := Ground.phase }, { on := 23, ground := Ground.phase }, { on := 24, ground := Ground.phase }, { on := 25, ground := Ground.phase }, { on := 26, ground := Ground.phase }, { on := 27, ground := Ground.phase }, { on := 28, ground := Ground.phase }, { on := 29, ground := Ground.phase }, { on := 30, ground := Ground.phase }, { on := 31, ground := Ground.phase }, { on := 32, ground := Ground.phase }, { on := 33, ground := Ground.phase }, { on := 34, ground := Ground.phase }, { on := 35, ground := Ground.phase }, { on := 36, ground := Ground.phase }, { on := 37, ground := Ground.phase }, { on := 38, ground := Ground.phase }, { on := 39, ground := Ground.phase }], guard := none }) (v := ?v35) rfl (by kernel_rfl) (by kernel_rfl) (by kernel_rfl) (fun _ _ _ h => h) (Or.inl ⟨by rfl, ?hy35⟩) (by assumption) ?_
      case hy35 => (intro w hSw; (try dsimp only at hSw); go_simp; try with_reducible rfl)
      try simp only [Act.put, List.setIfInBounds_toArray, List.set_cons_zero, List.set_cons_succ]
      refine wpAnyH_done (by kernel_rfl) ?_ _
      go_wp2
      go_ret
      exact ⟨rfl, ACC.out.trans ((ACL.out.trans (acc2.mono ACL.out.size)).mono ACC.out.size)⟩
  · intro K hK
    rw [if_pos (by rfl)]
    go_simp
    obtain ⟨wb32, hwb32⟩ : ∃ W, W = w20.alloc (.cells #[.string a] 9) := ⟨_, rfl⟩
    rw [← hwb32]
    have hk32 : wb32.heap[w20.heap.size]? = some (.cells #[.string a] 9 (0, 0)) := by rw [hwb32]; exact heap_alloc_new _ _
    have hz32 : w20.heap.size < wb32.heap.size := by rw [hwb32]; simp
    have hbe : Below w20.heap.size w20 wb32 := by rw [hwb32]; exact (Below.refl _ _).alloc (Nat.le_refl _) _
    replace acc2 := acc2.trans (hbe.mono acc2.size)
    clear hbe hwb32
    refine hK.out _ _ (KP.out _ acc2) (fun hHeld => ?_)
    clear hK K
    try simp only [Act.put, List.setIfInBounds_toArray, List.set_cons_zero, List.set_cons_succ]
    refine wpAnyH_ready (rs := [28]) (by kernel_rfl) (by simp) ?_
    refine AllReadyH.cons (o := { dst := some 56, op := Op.buildSlice 22 0 #[], type := 22, pos := "more.go:85", after := #[{ on := 24, ground := Ground.guard }], guard := some (24, true) }) rfl (fun K hK => ?_) AllReadyH.nil
    rw [if_pos (by rfl)]
    go_simp
    obtain ⟨wb28, hwb28⟩ : ∃ W, W = wb32.alloc (.cells #[] 9) := ⟨_, rfl⟩
    rw [← hwb28]
    have hrow : wb28.ownsRow wb32.heap.size 9 1 (.slice (some ⟨wb32.heap.size, 0, none⟩) 0 0) 0 (strs []) := ⟨rfl, Or.inr ⟨wb32.heap.size, 0, #[], rfl, Nat.le_refl _, by rw [hwb28]; exact heap_alloc_new _ _, Nat.le_refl _, by unfold maxLen; omega, rfl, rfl⟩⟩
    have hz28 : wb32.heap.size < wb28.heap.size := by rw [hwb28]; simp
    have hbs := acc2.size
    have hk32b := (show wb28.heap[w20.heap.size]? = _ by rw [hwb28]; exact heap_alloc_old _ _ (by omega)).trans hk32
    clear hk32
    have hk32 := hk32b
    clear hk32b
    have hbe : Below wb32.heap.size wb32 wb28 := by rw [hwb28]; exact (Below.refl _ _).alloc (Nat.le_refl _) _
    replace acc2 := acc2.trans (hbe.mono acc2.size)
    clear hbe hwb28
    refine hK.out _ _ (KP.out _ acc2) (fun hHeld => ?_)
    clear hK K
    try simp only [Act.put, List.setIfInBounds_toArray, List.set_cons_zero, List.set_cons_succ]
    refine wpAnyH_ready (rs := [30]) (by kernel_rfl) (by simp) ?_
    refine AllReadyH.cons (o := { dst := some 58, op := Op.call { callee := Callee.builtin Builtin.append, args := #[Operand.tmp 56, Operand.tmp 57], argTypes := #[22, 22] }, type := 22, pos := "more.go:85", after := #[{ on := 28, ground := Ground.data }, { on := 29, ground := Ground.data }, { on := 24, ground := Ground.chain }, { on := 24, ground := Ground.guard }], guard := some (24, true) }) rfl (fun K hK => ?_) AllReadyH.nil
    rw [if_pos (by rfl)]
    refine wpOp_append_texts _ (.tmp 56) (.tmp 57) rfl wb32.heap.size _ 0 _ [] rfl hrow adl n cl (betOf a.data.toList b.data.toList) rfl (HL.out.below acc2) (by omega) (by omega) (by omega) ?_
    intro ad30 c30 w30 hrow30 hb30 hgr30
    replace acc2 := acc2.trans (hb30.mono hbs)
    have hk32b := (hgr30.block (w20.heap.size) (by omega) (by simp only [Value.ownBlock, ne_eq, Option.some.injEq]; omega)).trans hk32
    clear hk32
    have hk32 := hk32b
    clear hk32b
    have hz30 := hgr30.size
    clear hb30 hgr30 hrow
    have hrow := hrow30
    clear hrow30
    rw [List.nil_append, Nat.zero_add] at hrow
    rw [Nat.zero_add]
    refine hK.out _ _ (KP.out _ acc2) (fun hHeld => ?_)
    clear hK K
    try simp only [Act.put, List.setIfInBounds_toArray, List.set_cons_zero, List.set_cons_succ]
    refine wpAnyH_ready (rs := [33]) (by kernel_rfl) (by simp) ?_
    refine AllReadyH.cons (o := { dst := some 61, op := Op.call { callee := Callee.builtin Builtin.append, args := #[Operand.tmp 58, Operand.tmp 60], argTypes := #[22, 22] }, type := 22, pos := "more.go:85", after := #[{ on := 30, ground := Ground.data }, { on := 32, ground := Ground.data }, { on := 30, ground := Ground.chain }, { on := 24, ground := Ground.guard }], guard := some (24, true) }) rfl (fun K hK => ?_) AllReadyH.nil
    rw [if_pos (by rfl)]
    refine wpOp_append_texts _ (.tmp 58) (.tmp 60) rfl wb32.heap.size _ n _ (betOf a.data.toList b.data.toList) rfl hrow (some ⟨w20.heap.size, 0, none⟩) 1 1 [a.data.toList] rfl (at_block (l := [a.data.toList]) hk32) (by omega) (by omega) (by omega) ?_
    intro ad33 c33 w33 hrow33 hb33 hgr33
    replace acc2 := acc2.trans (hb33.mono hbs)
    have hA33 := At.owns hrow33
    clear hb33 hgr33 hrow hrow33
    refine hK.out _ _ (KP.out _ acc2) (fun hHeld => ?_)
    clear hK K
    try simp only [Act.put, List.setIfInBounds_toArray, List.set_cons_zero, List.set_cons_succ]
    refine wpAnyH_ready (rs := [34]) (by kernel_rfl) (by simp) ?_
    refine AllReadyH.cons (o := { dst := some 62, op := Op.call { callee := Callee.value (Operand.func 26), args := #[Operand.tmp 53, Operand.tmp 54, Operand.tmp 55, Operand.tmp 61], argTypes := #[26, 9, 9, 22] }, type := 4, pos := "more.go:85", after := #[{ on := 25, ground := Ground.data }, { on := 26, ground := Ground.data }, { on := 27, ground := Ground.data }, { on := 33, ground := Ground.data }, { on := 33, ground := Ground.chain }, { on := 24, ground := Ground.guard }], guard := some (24, true) }) rfl (fun K hK => ?_) AllReadyH.nil
    rw [if_pos (by rfl)]
    go_simp
    refine (HAL.out _ acc2 _ _ _ _ (hA33) (by first | (show 0 ≤ _; omega) | (dsimp only; omega) | omega | (simp; done))).mono ?_
    rintro e w34 ⟨rfl, hb⟩
    rw [HF4.out]
    replace acc2 := acc2.trans (hb.mono acc2.size)
    clear hb
    dsimp only
    refine hK.out _ _ (KP.out _ acc2) (fun hHeld => ?_)
    clear hK K
    try simp only [Act.put, List.setIfInBounds_toArray, List.set_cons_zero, List.set_cons_succ]
    refine wpAnyH_take (i := 35) (oi := { dst := some 63, op := Op.unOp UnOp.not 4 (Operand.tmp 62), type := 4, pos := "more.go:85", after := #[{ on := 34, ground := Ground.data }, { on := 24, ground := Ground.guard }], guard := some (24, true) }) (v := ?v36) rfl (by kernel_rfl) (by kernel_rfl) (by kernel_rfl) (fun _ _ _ h => h) (Or.inl ⟨by rfl, ?hy36⟩) (by assumption) ?_
    case hy36 => (intro w hSw; (try dsimp only at hSw); go_simp; try with_reducible rfl)
    try simp only [Act.put, List.setIfInBounds_toArray, List.set_cons_zero, List.set_cons_succ]
    refine wpAnyH_take (i := 36) (oi := { dst := some 64, op := Op.pick (Operand.tmp 52) (Operand.tmp 63) (Operand.const (Value.bool false)), type := 4, pos := "more.go:85", after := #[{ on := 24, ground := Ground.data }, { on := 35, ground := Ground.data }], guard := none }) (v := ?v37) rfl (by kernel_rfl) (by kernel_rfl) (by kernel_rfl) (fun _ _ _ h => h) (Or.inl ⟨by rfl, ?hy37⟩) (by assumption) ?_
    case hy37 => (intro w hSw; (try dsimp only at hSw); go_simp; try with_reducible rfl)
    try simp only [Act.put, List.setIfInBounds_toArray, List.set_cons_zero, List.set_cons_succ]
    refine wpAnyH_take (i := 37) (oi := { dst := some 65, op := Op.move (Operand.tmp 64), type := 4, pos := "more.go:85", after := #[{ on := 36, ground := Ground.data }, { on := 34, ground := Ground.chain }], guard := none }) (v := ?v38) rfl (by kernel_rfl) (by kernel_rfl) (by kernel_rfl) (fun _ _ _ h => h) (Or.inl ⟨by rfl, ?hy38⟩) (by assumption) ?_
    case hy38 => (intro w hSw; (try dsimp only at hSw); go_simp; try with_reducible rfl)
    try simp only [Act.put, List.setIfInBounds_toArray, List.set_cons_zero, List.set_cons_succ]
    refine wpAnyH_ready (rs := [38]) (by kernel_rfl) (by simp) ?_
    refine AllReadyH.cons (o := { dst := some 66, op := Op.call { callee := Callee.value (Operand.func 14), args := #[], argTypes := #[] }, type := 4, pos := "more.go:85", after := #[{ on := 37, ground := Ground.chain }, { on := 37, ground := Ground.guard }], guard := some (37, true) }) rfl (fun K hK => ?_) AllReadyH.nil
    rw [if_pos (by rfl)]
    go_simp
    refine (known_any _ (HG.out.below (ACL.out.trans (acc2.mono ACL.out.size)))).mono ?_
    rintro e w38 ⟨rfl, hb⟩
    replace acc2 := acc2.trans (hb.mono acc2.size)
    clear hb
    dsimp only
    refine hK.out _ _ (KP.out _ acc2) (fun hHeld => ?_)
    clear hK K
    try simp only [Act.put, List.setIfInBounds_toArray, List.set_cons_zero, List.set_cons_succ]
    refine wpAnyH_take (i := 39) (oi := { dst := some 67, op := Op.pick (Operand.tmp 65) (Operand.tmp 66) (Operand.const (Value.bool false)), type := 4, pos := "more.go:85", after := #[{ on := 37, ground := Ground.data }, { on := 38, ground := Ground.data }], guard := none }) (v := ?v39) rfl (by kernel_rfl) (by kernel_rfl) (by kernel_rfl) (fun _ _ _ h => h) (Or.inl ⟨by rfl, ?hy39⟩) (by assumption) ?_
    case hy39 => (intro w hSw; (try dsimp only at hSw); go_simp; try with_reducible rfl)
    try simp only [Act.put, List.setIfInBounds_toArray, List.set_cons_zero, List.set_cons_succ]
    refine wpAnyH_take (i := 40) (oi := { dst := some 6, op := Op.assign (Operand.tmp 67), type := 4, pos := "more.go:85", after := #[{ on := 39, ground := Ground.data }, { on := 38, ground := Ground.chain }, { on := 0, ground := Ground.phase }, { on := 1, ground := Ground.phase }, { on := 2, ground := Ground.phase }, { on := 3, ground := Ground.phase }, { on := 4, ground := Ground.phase }, { on := 5, ground := Ground.phase }, { on := 6, ground := Ground.phase }, { on := 7, ground := Ground.phase }, { on := 8, ground := Ground.phase }, { on := 9, ground := Ground.phase }, { on := 10, ground := Ground.phase }, { on := 11, ground := Ground.phase }, { on := 12, ground := Ground.phase }, { on := 13, ground := Ground.phase }, { on := 14, ground := Ground.phase }, { on := 15, ground := Ground.phase }, { on := 16, ground := Ground.phase }, { on := 17, ground := Ground.phase }, { on := 18, ground := Ground.phase }, { on := 19, ground := Ground.phase }, { on := 20, ground := Ground.phase }, { on := 21, ground := Ground.phase }, { on := 22, ground := Ground.phase }, { on := 23, ground := Ground.phase }, { on := 24, ground := Ground.phase }, { on := 25, ground := Ground.phase }, { on := 26, ground := Ground.phase }, { on := 27, ground := Ground.phase }, { on := 28, ground := Ground.phase }, { on := 29, ground := Ground.phase }, { on := 30, ground := Ground.phase }, { on := 31, ground := Ground.phase }, { on := 32, ground := Ground.phase }, { on := 33, ground := Ground.phase }, { on := 34, ground := Ground.phase }, { on := 35, ground := Ground.phase }, { on := 36, ground := Ground.phase }, { on := 37, ground := Ground.phase }, { on := 38, ground := Ground.phase }, { on := 39, ground := Ground.phase }], guard := none }) (v := ?v40) rfl (by kernel_rfl) (by kernel_rfl) (by kernel_rfl) (fun _ _ _ h => h) (Or.inl ⟨by rfl, ?hy40⟩) (by assumption) ?_
    case hy40 => (intro w hSw; (try dsimp only at hSw); go_simp; try with_reducible rfl)
    try simp only [Act.put, List.setIfInBounds_toArray, List.set_cons_zero, List.set_cons_succ]
    refine wpAnyH_done (by kernel_rfl) ?_ _
    go_wp2
    go_ret
    exact ⟨rfl, ACC.out.trans ((ACL.out.trans (acc2.mono ACL.out.size)).mono ACC.out.size)⟩

end Go.Proofs.YtcleonpckgfdhaaDoor
