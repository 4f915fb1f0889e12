/-
  RouteTells: the law's walk.
-/
import Derived.Test.YtcleonpckgfdhaaGreatDoorRtTl
set_option linter.unusedVariables false
set_option linter.unusedSimpArgs false
set_option maxRecDepth 100000
namespace Go.Proofs.YtcleonpckgfdhaaGreatDoor
open Go Go.RowKit Go.Lib Go.Shelf

/-- How much a row weighs. -/
def bulk (l : List Str) : Nat := sumBy sizeS l
theorem next_one (r : Option Str) : ∃ (N : ByteArray) (B : Bool), nextV r = .returned (.tuple #[.string N, .bool B]) := by
  cases r with
  | none => exact ⟨_, _, rfl⟩
  | some n => exact ⟨_, _, rfl⟩
/-- What a way's walk ends with, as one. -/
def WalkIs (r : Option (List Str)) (L : List Str) (B : Bool) : Prop := (r = none ∧ L = [] ∧ B = false) ∨ (r = some L ∧ B = true)
theorem walk_one0 (T : Topo) (a b : Str) : ∃ (L : List Str) (B : Bool), WalkIs (walkOf T a b) L B ∧ L.length ≤ 100 := by
  cases h : walkOf T a b with
  | none => exact ⟨[], false, .inl ⟨rfl, rfl, rfl⟩, by simp⟩
  | some L =>
    refine ⟨L, true, .inr ⟨rfl, rfl⟩, ?_⟩
    by_cases e : a = b
    · subst e
      rw [walk_self] at h
      cases h
      simp
    · have := (walk_ok h e).2.2
      omega
theorem walk_one {w w' : World} {r : Option (List Str)} {L : List Str} {B : Bool} {e : Ending} (h : WalkIs r L B) (hp : WalkPost w w' r e) : ∃ ad c, e = .returned (.tuple #[.slice ad L.length c, .bool B]) ∧ At w' ad L.length L ∧ Below w.heap.size w w' := by
  rcases h with ⟨rfl, rfl, rfl⟩ | ⟨rfl, rfl⟩
  · obtain ⟨rfl, hb⟩ := hp
    exact ⟨none, 0, rfl, At.nil _ _, hb⟩
  · exact hp

set_option maxHeartbeats 8000000 in
theorem routeTells_walk (v : Tv) (T : Topo) (a b : Int) (ad : Option Addr) (n c : Nat) (l : List Str) (hk : bulkT T ≤ 1048576) (_ : (Lit.int .i64 a).wf = true) (_ : (Lit.int .i64 b).wf = true) (hbl : bulk l ≤ 1048576) (w : World) (hg : Glob w) (hT : Tt w v T) (hA : At w ad n l) :
    Calls Tryz.prog 3 #[.agg #[.slice v.ar v.nr v.cr, .slice v.al v.nl v.cl, .slice v.ap v.np v.cp], .int .i64 a, .int .i64 b, .slice ad n c] w fun e w' => e = .returned (.bool true) ∧ Below w.heap.size w w' := by
  obtain ⟨ar, nr, cr, al, nl, cl, ap, np, cp⟩ := v
  dsimp only
  obtain ⟨w1, hw1⟩ : ∃ w1, w1 = w.alloc (.cells #[.slice ar nr cr, .slice al nl cl, .slice ap np cp] 26) := ⟨_, rfl⟩
  obtain ⟨acc0, hz, kp⟩ := box_keep hw1
  have keep : ∀ W, Below w1.heap.size w1 W → W.cell? ⟨w.heap.size, 0, none⟩ = some (.slice ar nr cr) ∧ W.cell? ⟨w.heap.size, 1, none⟩ = some (.slice al nl cl) ∧ W.cell? ⟨w.heap.size, 2, none⟩ = some (.slice ap np cp) := fun W h => ⟨kp W h 0 _ rfl, kp W h 1 _ rfl, kp W h 2 _ rfl⟩
  have hB := big_any w1 ⟨ar, nr, cr, al, nl, cl, ap, np, cp⟩ T (hT.below acc0) (by omega)
  have hl1 : T.realms.length = nr := hT.r.len
  have hl2 : T.links.length = nl := hT.l.len
  have hl3 : T.paths.length = np := hT.p.len
  have HA := Lib.hid (hA.below acc0)
  have hnl0 : n ≤ 1048576 := by rw [← hA.len]; exact Nat.le_trans (sumBy_len sizeS (fun x => by unfold sizeS; omega) _) hbl
  clear hA hbl
  have HG := Lib.hid (hg.below acc0)
  have KEEP := Lib.hid keep
  have ACC := Lib.hid acc0
  have HW1 := Lib.hid hw1
  have HT1 := Lib.hid (hT.below acc0)
  dsimp only at hB
  rw [hw1] at hB
  by_cases hbig : 3000 < bulkT T
  · rw [decide_eq_true hbig] at hB
    clear hbig hk hl1 hl2 hl3 hw1 acc0 hz kp keep hg hT
    go_enter Tryz.func3, Tryz.ntmps3
    go_wp2_with (first | (go_at_call 4; refine hB.mono ?_; rintro e w2 ⟨rfl, hb2⟩; rw [← HW1.out] at hb2; have acc : Below w1.heap.size w1 w2 := hb2; clear hb2; obtain ⟨a0, a1, a2⟩ := KEEP.out w2 acc))
    go_ret
    exact ⟨rfl, ACC.out.trans (acc.mono ACC.out.size)⟩
  · rw [decide_eq_false hbig] at hB
    have hbk : bulkT T ≤ 3000 := by omega
    obtain ⟨hr1, hr2⟩ := bulk_realms hbk
    have hr3 := bulk_links hbk
    obtain ⟨hS, hr4⟩ := bulk_short hbk (by omega)
    have hRI := fun W (h : Below w1.heap.size w1 W) => refIs7_any W ⟨ar, nr, cr, al, nl, cl, ap, np, cp⟩ T ((hT.below acc0).below h) (fun r hr => by have := hr2 r hr; omega) (by dsimp only; omega) (by dsimp only; omega) (by dsimp only; omega)
    dsimp only at hRI
    have HRI := Lib.hid hRI
    by_cases hok : topoOk T
    case neg =>
      have HOK := Lib.hid (decide_eq_false hok)
      clear hbig hk hl1 hl2 hl3 hw1 acc0 hz kp keep hg hT hbk hr1 hr2 hr3 hS hr4 hRI hok
      go_enter Tryz.func3, Tryz.ntmps3
      go_wp2_with (first | (go_at_call 4; refine hB.mono ?_; rintro e w2 ⟨rfl, hb2⟩; rw [← HW1.out] at hb2; have acc : Below w1.heap.size w1 w2 := hb2; clear hb2; obtain ⟨a0, a1, a2⟩ := KEEP.out w2 acc) | (go_at_call 5; refine (HRI.out _ acc).mono ?_; rintro e w3 ⟨rfl, hb3⟩; (first | rw [HOK.out] | skip); replace acc := acc.trans (hb3.mono acc.size); clear hb3 a0 a1 a2; obtain ⟨a0, a1, a2⟩ := KEEP.out w3 acc))
      go_ret
      exact ⟨rfl, ACC.out.trans (acc.mono ACC.out.size)⟩
    have HOK := Lib.hid (decide_eq_true hok)
    have hn1 : 1 ≤ nr := by have := hok.1.1; omega
    have hn6 : nr ≤ 6 := by have := hok.1.2.1; omega
    have hnl : nl ≤ 20 := by have := hok.2.1.1; omega
    have hnp : np ≤ 8 := by have := hok.2.2.1; omega
    have hPK : ∀ W, Below w1.heap.size w1 W → ∀ k : Int, Calls Tryz.prog 6 #[.agg #[.slice ar nr cr, .slice al nl cl, .slice ap np cp], .int .i64 k] W fun e w' => ∃ X : ByteArray, e = .returned (.string X) ∧ (X.data.toList ∈ T.realms ∧ X.size < 90000) ∧ Below W.heap.size W w' := fun W h k => by
      refine (pick_any W ⟨ar, nr, cr, al, nl, cl, ap, np, cp⟩ T k ((hT.below acc0).below h) (by dsimp only; omega) (by dsimp only; omega)).mono ?_
      rintro e w' ⟨rfl, hb⟩
      have hm := pick_mem (T := T) (by omega) k
      exact ⟨_, rfl, ⟨hm, by have := hr2 _ hm; show (pickOf T k).length < 90000; omega⟩, hb⟩
    by_cases hn20 : 20 < n
    · have hnz : (20 : Int) < (n : Int) := by omega
      clear hbig hk hl1 hl2 hl3 hw1 acc0 hz kp keep hg hT hbk hr1 hr2 hr3 hS hr4 hRI hok hPK hn20
      go_enter Tryz.func3, Tryz.ntmps3
      go_wp2_with (first | (go_at_call 4; refine hB.mono ?_; rintro e w2 ⟨rfl, hb2⟩; rw [← HW1.out] at hb2; have acc : Below w1.heap.size w1 w2 := hb2; clear hb2; obtain ⟨a0, a1, a2⟩ := KEEP.out w2 acc) | (go_at_call 5; refine (HRI.out _ acc).mono ?_; rintro e w3 ⟨rfl, hb3⟩; (first | rw [HOK.out] | skip); replace acc := acc.trans (hb3.mono acc.size); clear hb3 a0 a1 a2; obtain ⟨a0, a1, a2⟩ := KEEP.out w3 acc))
      go_ret
      exact ⟨rfl, ACC.out.trans (acc.mono ACC.out.size)⟩
    have hnz : ¬ (20 : Int) < (n : Int) := by omega
    have hn20 : n ≤ 20 := by omega
    have HPK := Lib.hid hPK
    have HS := Lib.hid hS
    have HOKT := Lib.hid hok
    have HLN := Lib.hid hl3
    have HZ := Lib.hid hz
    have tok : True := trivial
    clear hbig hk hl1 hl2 hl3 hw1 acc0 hz kp keep hg hT hbk hr1 hr2 hr3 hS hr4 hRI hok hPK
    go_enter Tryz.func3, Tryz.ntmps3
    go_wp2_with (first | (go_at_call 4; refine hB.mono ?_; rintro e w2 ⟨rfl, hb2⟩; rw [← HW1.out] at hb2; have acc : Below w1.heap.size w1 w2 := hb2; clear hb2; obtain ⟨a0, a1, a2⟩ := KEEP.out w2 acc) | (go_at_call 5; refine (HRI.out _ acc).mono ?_; rintro e w3 ⟨rfl, hb3⟩; (first | rw [HOK.out] | skip); replace acc := acc.trans (hb3.mono acc.size); clear hb3 a0 a1 a2; obtain ⟨a0, a1, a2⟩ := KEEP.out w3 acc))
    clear hB a0 a1 a2
    have acc := acc.drew
    have KEEP2 := Lib.hid KEEP.out
    go_region_held3 (fun W => W.cell? ⟨w.heap.size, 0, none⟩ = some (.slice ar nr cr) ∧ W.cell? ⟨w.heap.size, 1, none⟩ = some (.slice al nl cl) ∧ W.cell? ⟨w.heap.size, 2, none⟩ = some (.slice ap np cp)) (first | exact KEEP.out _ acc | go_keep)
      (first
        | (go_at_call 6; have _t := tok; refine (HPK.out _ acc _).mono ?_; rintro e w4 ⟨X, rfl, hX, hb4⟩; replace acc := acc.trans (hb4.mono acc.size); clear hb4 tok)
        | (go_at_call 6; refine (HPK.out _ acc _).mono ?_; rintro e w5 ⟨Y, rfl, hY, hb5⟩; replace acc := acc.trans (hb5.mono acc.size); clear hb5))
    obtain ⟨hXm, hXs⟩ := hX
    obtain ⟨hYm, hYs⟩ := hY
    have HXM := Lib.hid hXm
    have HYM := Lib.hid hYm
    have AC5 := Lib.hid acc
    clear hXm hYm
    have hS0 := HS.out
    obtain ⟨lk, hlk⟩ : ∃ lk, linkedOf T X.data.toList Y.data.toList = lk := ⟨_, rfl⟩
    obtain ⟨VV, hVV⟩ : ∃ VV, viaOf T X.data.toList Y.data.toList = VV := ⟨_, rfl⟩
    obtain ⟨al0, hal⟩ : ∃ al0, allowedOf T X.data.toList Y.data.toList l = al0 := ⟨_, rfl⟩
    obtain ⟨NN, NB, hnx⟩ := next_one (nextOf T X.data.toList Y.data.toList)
    obtain ⟨WL, WB, hwk, hw100⟩ := walk_one0 T X.data.toList Y.data.toList
    have hv100 := via_len hS0 X.data.toList Y.data.toList
    rw [hVV] at hv100
    obtain ⟨vn, hvn⟩ : ∃ vn, vn = VV.length := ⟨_, rfl⟩
    obtain ⟨wn, hwn⟩ : ∃ wn, wn = WL.length := ⟨_, rfl⟩
    rw [← hvn] at hv100
    rw [← hwn] at hw100
    have HLK := Lib.hid hlk
    have HVV := Lib.hid hVV
    have HAL := Lib.hid hal
    have HNX := Lib.hid hnx
    have HWK := Lib.hid hwk
    have HVN := Lib.hid hvn
    have HWN := Lib.hid hwn
    have knn := eq_bytes NN NN
    rw [decide_eq_true rfl] at knn
    clear hS0 hlk hVV hal hnx hwk hvn hwn
    obtain ⟨a0, a1, a2⟩ := KEEP.out _ acc
    go_wp2_with (first
      | (go_at_call 7; refine (next_any _ ⟨ar, nr, cr, al, nl, cl, ap, np, cp⟩ T X Y (HT1.out.below acc) HS.out (by dsimp only; omega) (HG.out.below acc) hXs hYs).mono ?_; rintro e w6 ⟨rfl, hb6⟩; rw [HNX.out]; replace acc := acc.trans (hb6.mono acc.size); clear hb6 a0 a1 a2; obtain ⟨a0, a1, a2⟩ := KEEP.out w6 acc)
      | (go_at_call 8; refine (ref7next_any _ ⟨ar, nr, cr, al, nl, cl, ap, np, cp⟩ T X Y (HT1.out.below acc) HS.out (by dsimp only; omega) (by dsimp only; omega) hXs hYs).mono ?_; rintro e w7 ⟨rfl, hb7⟩; rw [HNX.out]; replace acc := acc.trans (hb7.mono acc.size); clear hb7 a0 a1 a2; obtain ⟨a0, a1, a2⟩ := KEEP.out w7 acc)
      | (go_at_call 9; refine (walk_any _ ⟨ar, nr, cr, al, nl, cl, ap, np, cp⟩ T X Y (HT1.out.below acc) HS.out (by dsimp only; omega) (HG.out.below acc) hXs hYs).mono ?_; intro e w8 hp; obtain ⟨ad1, c1, rfl, hA1, hb8⟩ := walk_one (HWK.out) hp; rw [← HWN.out] at hA1 ⊢; have A1 := Lib.hid hA1; clear hp hA1; replace acc := acc.trans (hb8.mono acc.size); clear a0 a1 a2; obtain ⟨a0, a1, a2⟩ := KEEP.out w8 acc)
      | (go_at_call 10; refine (ref7walk_any _ ⟨ar, nr, cr, al, nl, cl, ap, np, cp⟩ T X Y (HT1.out.below acc) HS.out (by dsimp only; omega) (by dsimp only; omega) hXs hYs).mono ?_; intro e w9 hp; obtain ⟨ad2, c2, rfl, hA2, hb9⟩ := walk_one (HWK.out) hp; rw [← HWN.out] at hA2 ⊢; have A2 := Lib.hid hA2; have A3 := Lib.hid (A1.out.below hb9); clear hp hA2; replace acc := acc.trans (hb9.mono acc.size); clear hb9 a0 a1 a2; obtain ⟨a0, a1, a2⟩ := KEEP.out w9 acc))
    have acc9 := (Below.refl w9.heap.size w9).drew
    have acc := acc.drew
    as_aux_lemma =>
      refine wp_region_held_drew (S := (fun W => W.cell? ⟨w.heap.size, 0, none⟩ = some (.slice ar nr cr) ∧ W.cell? ⟨w.heap.size, 1, none⟩ = some (.slice al nl cl) ∧ W.cell? ⟨w.heap.size, 2, none⟩ = some (.slice ap np cp))) (by as_aux_lemma => kernel_rfl) (KEEP.out _ acc) (fun hHeld => ?_)
      refine wpAnyH_take (i := 0) (oi := { dst := some 65, op := Op.load 26 (Operand.tmp 4), type := 26, pos := "law.go:70", after := #[], guard := none }) (v := ?v1) rfl (by as_aux_lemma => kernel_rfl) (by as_aux_lemma => kernel_rfl) (by as_aux_lemma => kernel_rfl) (fun _ _ _ h => h) (Or.inl ⟨by rfl, ?hy1⟩) (by assumption) ?_
      case hy1 => (intro w hSw; (try dsimp only at hSw); go_simp; try with_reducible rfl)
      try simp only [Act.put, List.setIfInBounds_toArray, List.set_cons_zero, List.set_cons_succ]
      refine wpAnyH_take (i := 1) (oi := { dst := some 66, op := Op.move (Operand.tmp 9), type := 9, pos := "law.go:70", after := #[], guard := none }) (v := ?v2) rfl (by as_aux_lemma => kernel_rfl) (by as_aux_lemma => kernel_rfl) (by as_aux_lemma => kernel_rfl) (fun _ _ _ h => h) (Or.inl ⟨by rfl, ?hy2⟩) (by assumption) ?_
      case hy2 => (intro w hSw; (try dsimp only at hSw); go_simp; try with_reducible rfl)
      try simp only [Act.put, List.setIfInBounds_toArray, List.set_cons_zero, List.set_cons_succ]
      refine wpAnyH_take (i := 2) (oi := { dst := some 67, op := Op.move (Operand.tmp 10), type := 9, pos := "law.go:70", after := #[], guard := none }) (v := ?v3) rfl (by as_aux_lemma => kernel_rfl) (by as_aux_lemma => kernel_rfl) (by as_aux_lemma => kernel_rfl) (fun _ _ _ h => h) (Or.inl ⟨by rfl, ?hy3⟩) (by assumption) ?_
      case hy3 => (intro w hSw; (try dsimp only at hSw); go_simp; try with_reducible rfl)
      try simp only [Act.put, List.setIfInBounds_toArray, List.set_cons_zero, List.set_cons_succ]
      as_aux_lemma =>
        refine wpAnyH_take (i := 4) (oi := { dst := some 69, op := Op.load 26 (Operand.tmp 4), type := 26, pos := "law.go:70", after := #[], guard := none }) (v := ?v4) rfl (by as_aux_lemma => kernel_rfl) (by as_aux_lemma => kernel_rfl) (by as_aux_lemma => kernel_rfl) (fun _ _ _ h => h) (Or.inl ⟨by rfl, ?hy4⟩) (by assumption) ?_
        case hy4 => (intro w hSw; (try dsimp only at hSw); go_simp; try with_reducible rfl)
        try simp only [Act.put, List.setIfInBounds_toArray, List.set_cons_zero, List.set_cons_succ]
        refine wpAnyH_take (i := 5) (oi := { dst := some 70, op := Op.move (Operand.tmp 9), type := 9, pos := "law.go:70", after := #[], guard := none }) (v := ?v5) rfl (by as_aux_lemma => kernel_rfl) (by as_aux_lemma => kernel_rfl) (by as_aux_lemma => kernel_rfl) (fun _ _ _ h => h) (Or.inl ⟨by rfl, ?hy5⟩) (by assumption) ?_
        case hy5 => (intro w hSw; (try dsimp only at hSw); go_simp; try with_reducible rfl)
        try simp only [Act.put, List.setIfInBounds_toArray, List.set_cons_zero, List.set_cons_succ]
        refine wpAnyH_take (i := 6) (oi := { dst := some 71, op := Op.move (Operand.tmp 10), type := 9, pos := "law.go:70", after := #[], guard := none }) (v := ?v6) rfl (by as_aux_lemma => kernel_rfl) (by as_aux_lemma => kernel_rfl) (by as_aux_lemma => kernel_rfl) (fun _ _ _ h => h) (Or.inl ⟨by rfl, ?hy6⟩) (by assumption) ?_
        case hy6 => (intro w hSw; (try dsimp only at hSw); go_simp; try with_reducible rfl)
        try simp only [Act.put, List.setIfInBounds_toArray, List.set_cons_zero, List.set_cons_succ]
        refine wpAnyH_ready (rs := [3]) (by as_aux_lemma => kernel_rfl) (by simp) ?_
        refine AllReadyH.cons (o := { dst := some 68, op := Op.call { callee := Callee.value (Operand.func 11), args := #[Operand.tmp 65, Operand.tmp 66, Operand.tmp 67], argTypes := #[26, 9, 9] }, type := 4, pos := "law.go:70", after := #[{ on := 0, ground := Ground.data }, { on := 1, ground := Ground.data }, { on := 2, ground := Ground.data }], guard := none }) rfl (fun K hK => ?_) AllReadyH.nil
        rw [if_pos (by rfl)]
        go_simp
        refine (linked_any _ ⟨ar, nr, cr, al, nl, cl, ap, np, cp⟩ T X Y (HT1.out.below acc) (by dsimp only; omega)).mono ?_
        rintro e w10 ⟨rfl, hb10⟩
        rw [HLK.out]
        replace acc := acc.trans (hb10.mono acc.size)
        replace acc9 := acc9.trans (hb10.mono acc9.size)
        clear hb10
        dsimp only
        refine hK.out _ _ (KEEP.out _ acc) (fun hHeld => ?_)
        clear hK K
        try simp only [Act.put, List.setIfInBounds_toArray, List.set_cons_zero, List.set_cons_succ]
        refine wpAnyH_ready (rs := [7]) (by as_aux_lemma => kernel_rfl) (by simp) ?_
        refine AllReadyH.cons (o := { dst := some 72, op := Op.call { callee := Callee.value (Operand.func 12), args := #[Operand.tmp 69, Operand.tmp 70, Operand.tmp 71], argTypes := #[26, 9, 9] }, type := 4, pos := "law.go:70", after := #[{ on := 4, ground := Ground.data }, { on := 5, ground := Ground.data }, { on := 6, ground := Ground.data }, { on := 3, ground := Ground.chain }], guard := none }) rfl (fun K hK => ?_) AllReadyH.nil
        rw [if_pos (by rfl)]
        go_simp
        refine (refLinked_any _ ⟨ar, nr, cr, al, nl, cl, ap, np, cp⟩ T X Y (HT1.out.below acc) (by dsimp only; omega)).mono ?_
        rintro e w11 ⟨rfl, hb11⟩
        rw [HLK.out]
        replace acc := acc.trans (hb11.mono acc.size)
        replace acc9 := acc9.trans (hb11.mono acc9.size)
        clear hb11
        dsimp only
        refine hK.out _ _ (KEEP.out _ acc) (fun hHeld => ?_)
        clear hK K
        try simp only [Act.put, List.setIfInBounds_toArray, List.set_cons_zero, List.set_cons_succ]
        refine wpAnyH_take (i := 8) (oi := { dst := some 73, op := Op.binOp BinOp.eql 4 (Operand.tmp 68) (Operand.tmp 72) 4, type := 4, pos := "law.go:70", after := #[{ on := 3, ground := Ground.data }, { on := 7, ground := Ground.data }], guard := none }) (v := ?v7) rfl (by as_aux_lemma => kernel_rfl) (by as_aux_lemma => kernel_rfl) (by as_aux_lemma => kernel_rfl) (fun _ _ _ h => h) (Or.inl ⟨by rfl, ?hy7⟩) (by assumption) ?_
        case hy7 => (intro w hSw; (try dsimp only at hSw); go_simp; try with_reducible rfl)
        try simp only [Act.put, List.setIfInBounds_toArray, List.set_cons_zero, List.set_cons_succ]
        refine wpAnyH_take (i := 9) (oi := { dst := some 74, op := Op.move (Operand.tmp 73), type := 4, pos := "law.go:70", after := #[{ on := 8, ground := Ground.data }, { on := 7, ground := Ground.chain }], guard := none }) (v := ?v8) rfl (by as_aux_lemma => kernel_rfl) (by as_aux_lemma => kernel_rfl) (by as_aux_lemma => kernel_rfl) (fun _ _ _ h => h) (Or.inl ⟨by rfl, ?hy8⟩) (by assumption) ?_
        case hy8 => (intro w hSw; (try dsimp only at hSw); go_simp; try with_reducible rfl)
        try simp only [Act.put, List.setIfInBounds_toArray, List.set_cons_zero, List.set_cons_succ]
        as_aux_lemma =>
          refine wpAnyH_take (i := 10) (oi := { dst := some 75, op := Op.load 26 (Operand.tmp 4), type := 26, pos := "law.go:70", after := #[{ on := 9, ground := Ground.guard }], guard := some (9, true) }) (v := ?v9) rfl (by as_aux_lemma => kernel_rfl) (by as_aux_lemma => kernel_rfl) (by as_aux_lemma => kernel_rfl) (fun _ _ _ h => h) (Or.inl ⟨by rfl, ?hy9⟩) (by assumption) ?_
          case hy9 => (intro w hSw; (try dsimp only at hSw); go_simp; try with_reducible rfl)
          try simp only [Act.put, List.setIfInBounds_toArray, List.set_cons_zero, List.set_cons_succ]
          refine wpAnyH_take (i := 11) (oi := { dst := some 76, op := Op.move (Operand.tmp 9), type := 9, pos := "law.go:70", after := #[{ on := 9, ground := Ground.guard }], guard := some (9, true) }) (v := ?v10) rfl (by as_aux_lemma => kernel_rfl) (by as_aux_lemma => kernel_rfl) (by as_aux_lemma => kernel_rfl) (fun _ _ _ h => h) (Or.inl ⟨by rfl, ?hy10⟩) (by assumption) ?_
          case hy10 => (intro w hSw; (try dsimp only at hSw); go_simp; try with_reducible rfl)
          try simp only [Act.put, List.setIfInBounds_toArray, List.set_cons_zero, List.set_cons_succ]
          refine wpAnyH_take (i := 12) (oi := { dst := some 77, op := Op.move (Operand.tmp 10), type := 9, pos := "law.go:70", after := #[{ on := 9, ground := Ground.guard }], guard := some (9, true) }) (v := ?v11) rfl (by as_aux_lemma => kernel_rfl) (by as_aux_lemma => kernel_rfl) (by as_aux_lemma => kernel_rfl) (fun _ _ _ h => h) (Or.inl ⟨by rfl, ?hy11⟩) (by assumption) ?_
          case hy11 => (intro w hSw; (try dsimp only at hSw); go_simp; try with_reducible rfl)
          try simp only [Act.put, List.setIfInBounds_toArray, List.set_cons_zero, List.set_cons_succ]
          as_aux_lemma =>
            refine wpAnyH_take (i := 14) (oi := { dst := some 79, op := Op.load 26 (Operand.tmp 4), type := 26, pos := "law.go:70", after := #[{ on := 9, ground := Ground.guard }], guard := some (9, true) }) (v := ?v12) rfl (by as_aux_lemma => kernel_rfl) (by as_aux_lemma => kernel_rfl) (by as_aux_lemma => kernel_rfl) (fun _ _ _ h => h) (Or.inl ⟨by rfl, ?hy12⟩) (by assumption) ?_
            case hy12 => (intro w hSw; (try dsimp only at hSw); go_simp; try with_reducible rfl)
            try simp only [Act.put, List.setIfInBounds_toArray, List.set_cons_zero, List.set_cons_succ]
            refine wpAnyH_take (i := 15) (oi := { dst := some 80, op := Op.move (Operand.tmp 9), type := 9, pos := "law.go:70", after := #[{ on := 9, ground := Ground.guard }], guard := some (9, true) }) (v := ?v13) rfl (by as_aux_lemma => kernel_rfl) (by as_aux_lemma => kernel_rfl) (by as_aux_lemma => kernel_rfl) (fun _ _ _ h => h) (Or.inl ⟨by rfl, ?hy13⟩) (by assumption) ?_
            case hy13 => (intro w hSw; (try dsimp only at hSw); go_simp; try with_reducible rfl)
            try simp only [Act.put, List.setIfInBounds_toArray, List.set_cons_zero, List.set_cons_succ]
            refine wpAnyH_take (i := 16) (oi := { dst := some 81, op := Op.move (Operand.tmp 10), type := 9, pos := "law.go:70", after := #[{ on := 9, ground := Ground.guard }], guard := some (9, true) }) (v := ?v14) rfl (by as_aux_lemma => kernel_rfl) (by as_aux_lemma => kernel_rfl) (by as_aux_lemma => kernel_rfl) (fun _ _ _ h => h) (Or.inl ⟨by rfl, ?hy14⟩) (by assumption) ?_
            case hy14 => (intro w hSw; (try dsimp only at hSw); go_simp; try with_reducible rfl)
            try simp only [Act.put, List.setIfInBounds_toArray, List.set_cons_zero, List.set_cons_succ]
            refine wpAnyH_ready (rs := [13]) (by as_aux_lemma => kernel_rfl) (by simp) ?_
            refine AllReadyH.cons (o := { dst := some 78, op := Op.call { callee := Callee.value (Operand.func 14), args := #[Operand.tmp 75, Operand.tmp 76, Operand.tmp 77], argTypes := #[26, 9, 9] }, type := 22, pos := "law.go:70", after := #[{ on := 10, ground := Ground.data }, { on := 11, ground := Ground.data }, { on := 12, ground := Ground.data }, { on := 9, ground := Ground.chain }, { on := 9, ground := Ground.guard }], guard := some (9, true) }) rfl (fun K hK => ?_) AllReadyH.nil
            rw [if_pos (by rfl)]
            go_simp
            refine (via_any _ ⟨ar, nr, cr, al, nl, cl, ap, np, cp⟩ T X Y (HT1.out.below acc) HS.out (HG.out.below acc) hXs hYs).mono ?_
            rintro e w12 ⟨ad3, c3, rfl, ho3, hb12⟩
            rw [HVV.out, ← HVN.out] at ho3
            rw [HVV.out, ← HVN.out]
            have B1 := Lib.hid (At.owns ho3)
            clear ho3
            replace acc := acc.trans (hb12.mono acc.size)
            replace acc9 := acc9.trans (hb12.mono acc9.size)
            clear hb12
            dsimp only
            refine hK.out _ _ (KEEP.out _ acc) (fun hHeld => ?_)
            clear hK K
            try simp only [Act.put, List.setIfInBounds_toArray, List.set_cons_zero, List.set_cons_succ]
            refine wpAnyH_ready (rs := [17]) (by as_aux_lemma => kernel_rfl) (by simp) ?_
            refine AllReadyH.cons (o := { dst := some 82, op := Op.call { callee := Callee.value (Operand.func 15), args := #[Operand.tmp 79, Operand.tmp 80, Operand.tmp 81], argTypes := #[26, 9, 9] }, type := 22, pos := "law.go:70", after := #[{ on := 14, ground := Ground.data }, { on := 15, ground := Ground.data }, { on := 16, ground := Ground.data }, { on := 13, ground := Ground.chain }, { on := 9, ground := Ground.guard }], guard := some (9, true) }) rfl (fun K hK => ?_) AllReadyH.nil
            rw [if_pos (by rfl)]
            go_simp
            refine (ref7via_any _ ⟨ar, nr, cr, al, nl, cl, ap, np, cp⟩ T X Y (HT1.out.below acc) (by dsimp only; omega) hXs hYs).mono ?_
            rintro e w13 ⟨ad4, c4, rfl, hB4, hb13⟩
            rw [HVV.out, ← HVN.out] at hB4
            rw [HVV.out, ← HVN.out]
            have B2 := Lib.hid hB4
            have B3 := Lib.hid (B1.out.below hb13)
            clear hB4
            replace acc := acc.trans (hb13.mono acc.size)
            replace acc9 := acc9.trans (hb13.mono acc9.size)
            clear hb13
            dsimp only
            refine hK.out _ _ (KEEP.out _ acc) (fun hHeld => ?_)
            clear hK K
            try simp only [Act.put, List.setIfInBounds_toArray, List.set_cons_zero, List.set_cons_succ]
            as_aux_lemma =>
              refine wpAnyH_ready (rs := [18]) (by as_aux_lemma => kernel_rfl) (by simp) ?_
              refine AllReadyH.cons (o := { dst := some 83, op := Op.call { callee := Callee.value (Operand.func 13), args := #[Operand.tmp 78, Operand.tmp 82], argTypes := #[22, 22] }, type := 4, pos := "law.go:70", after := #[{ on := 13, ground := Ground.data }, { on := 17, ground := Ground.data }, { on := 17, ground := Ground.chain }, { on := 9, ground := Ground.guard }], guard := some (9, true) }) rfl (fun K hK => ?_) AllReadyH.nil
              rw [if_pos (by rfl)]
              go_simp
              refine (texts_any _ ad3 ad4 vn c3 vn c4 VV VV B3.out B2.out (by omega) (by omega)).mono ?_
              rintro e w14 ⟨rfl, hb14⟩
              rw [decide_eq_true (rfl : VV = VV)]
              replace acc := acc.trans (hb14.mono acc.size)
              replace acc9 := acc9.trans (hb14.mono acc9.size)
              clear hb14
              dsimp only
              refine hK.out _ _ (KEEP.out _ acc) (fun hHeld => ?_)
              clear hK K
              try simp only [Act.put, List.setIfInBounds_toArray, List.set_cons_zero, List.set_cons_succ]
              refine wpAnyH_take (i := 19) (oi := { dst := some 84, op := Op.pick (Operand.tmp 74) (Operand.tmp 83) (Operand.const (Value.bool false)), type := 4, pos := "law.go:70", after := #[{ on := 9, ground := Ground.data }, { on := 18, ground := Ground.data }], guard := none }) (v := ?v15) rfl (by as_aux_lemma => kernel_rfl) (by as_aux_lemma => kernel_rfl) (by as_aux_lemma => kernel_rfl) (fun _ _ _ h => h) (Or.inl ⟨by rfl, ?hy15⟩) (by assumption) ?_
              case hy15 => (intro w hSw; (try dsimp only at hSw); go_simp; try with_reducible rfl)
              try simp only [Act.put, List.setIfInBounds_toArray, List.set_cons_zero, List.set_cons_succ]
              as_aux_lemma =>
                refine wpAnyH_take (i := 20) (oi := { dst := some 85, op := Op.move (Operand.tmp 84), type := 4, pos := "law.go:70", after := #[{ on := 19, ground := Ground.data }, { on := 18, ground := Ground.chain }], guard := none }) (v := ?v16) rfl (by as_aux_lemma => kernel_rfl) (by as_aux_lemma => kernel_rfl) (by as_aux_lemma => kernel_rfl) (fun _ _ _ h => h) (Or.inl ⟨by rfl, ?hy16⟩) (by assumption) ?_
                case hy16 => (intro w hSw; (try dsimp only at hSw); go_simp; try with_reducible rfl)
                try simp only [Act.put, List.setIfInBounds_toArray, List.set_cons_zero, List.set_cons_succ]
                refine wpAnyH_take (i := 21) (oi := { dst := some 86, op := Op.move (Operand.tmp 11), type := 9, pos := "law.go:70", after := #[{ on := 20, ground := Ground.guard }], guard := some (20, true) }) (v := ?v17) rfl (by as_aux_lemma => kernel_rfl) (by as_aux_lemma => kernel_rfl) (by as_aux_lemma => kernel_rfl) (fun _ _ _ h => h) (Or.inl ⟨by rfl, ?hy17⟩) (by assumption) ?_
                case hy17 => (intro w hSw; (try dsimp only at hSw); go_simp; try with_reducible rfl)
                try simp only [Act.put, List.setIfInBounds_toArray, List.set_cons_zero, List.set_cons_succ]
                refine wpAnyH_take (i := 22) (oi := { dst := some 87, op := Op.move (Operand.tmp 13), type := 9, pos := "law.go:70", after := #[{ on := 20, ground := Ground.guard }], guard := some (20, true) }) (v := ?v18) rfl (by as_aux_lemma => kernel_rfl) (by as_aux_lemma => kernel_rfl) (by as_aux_lemma => kernel_rfl) (fun _ _ _ h => h) (Or.inl ⟨by rfl, ?hy18⟩) (by assumption) ?_
                case hy18 => (intro w hSw; (try dsimp only at hSw); go_simp; try with_reducible rfl)
                try simp only [Act.put, List.setIfInBounds_toArray, List.set_cons_zero, List.set_cons_succ]
                refine wpAnyH_take (i := 23) (oi := { dst := some 88, op := Op.binOp BinOp.eql 9 (Operand.tmp 86) (Operand.tmp 87) 9, type := 4, pos := "law.go:70", after := #[{ on := 21, ground := Ground.data }, { on := 22, ground := Ground.data }, { on := 20, ground := Ground.guard }], guard := some (20, true) }) (v := ?v19) rfl (by as_aux_lemma => kernel_rfl) (by as_aux_lemma => kernel_rfl) (by as_aux_lemma => kernel_rfl) (fun _ _ _ h => h) (Or.inl ⟨by rfl, ?hy19⟩) (by assumption) ?_
                case hy19 => (intro w hSw; (try dsimp only at hSw); go_simp; try with_reducible rfl)
                try simp only [Act.put, List.setIfInBounds_toArray, List.set_cons_zero, List.set_cons_succ]
                refine wpAnyH_take (i := 24) (oi := { dst := some 89, op := Op.pick (Operand.tmp 85) (Operand.tmp 88) (Operand.const (Value.bool false)), type := 4, pos := "law.go:70", after := #[{ on := 20, ground := Ground.data }, { on := 23, ground := Ground.data }], guard := none }) (v := ?v20) rfl (by as_aux_lemma => kernel_rfl) (by as_aux_lemma => kernel_rfl) (by as_aux_lemma => kernel_rfl) (fun _ _ _ h => h) (Or.inl ⟨by rfl, ?hy20⟩) (by assumption) ?_
                case hy20 => (intro w hSw; (try dsimp only at hSw); go_simp; try with_reducible rfl)
                try simp only [Act.put, List.setIfInBounds_toArray, List.set_cons_zero, List.set_cons_succ]
                refine wpAnyH_take (i := 25) (oi := { dst := some 90, op := Op.move (Operand.tmp 89), type := 4, pos := "law.go:70", after := #[{ on := 24, ground := Ground.data }, { on := 20, ground := Ground.chain }], guard := none }) (v := ?v21) rfl (by as_aux_lemma => kernel_rfl) (by as_aux_lemma => kernel_rfl) (by as_aux_lemma => kernel_rfl) (fun _ _ _ h => h) (Or.inl ⟨by rfl, ?hy21⟩) (by assumption) ?_
                case hy21 => (intro w hSw; (try dsimp only at hSw); go_simp; try with_reducible rfl)
                try simp only [Act.put, List.setIfInBounds_toArray, List.set_cons_zero, List.set_cons_succ]
                as_aux_lemma =>
                  refine wpAnyH_take (i := 26) (oi := { dst := some 91, op := Op.move (Operand.tmp 12), type := 4, pos := "law.go:70", after := #[{ on := 25, ground := Ground.guard }], guard := some (25, true) }) (v := ?v22) rfl (by as_aux_lemma => kernel_rfl) (by as_aux_lemma => kernel_rfl) (by as_aux_lemma => kernel_rfl) (fun _ _ _ h => h) (Or.inl ⟨by rfl, ?hy22⟩) (by assumption) ?_
                  case hy22 => (intro w hSw; (try dsimp only at hSw); go_simp; try with_reducible rfl)
                  try simp only [Act.put, List.setIfInBounds_toArray, List.set_cons_zero, List.set_cons_succ]
                  refine wpAnyH_take (i := 27) (oi := { dst := some 92, op := Op.move (Operand.tmp 14), type := 4, pos := "law.go:70", after := #[{ on := 25, ground := Ground.guard }], guard := some (25, true) }) (v := ?v23) rfl (by as_aux_lemma => kernel_rfl) (by as_aux_lemma => kernel_rfl) (by as_aux_lemma => kernel_rfl) (fun _ _ _ h => h) (Or.inl ⟨by rfl, ?hy23⟩) (by assumption) ?_
                  case hy23 => (intro w hSw; (try dsimp only at hSw); go_simp; try with_reducible rfl)
                  try simp only [Act.put, List.setIfInBounds_toArray, List.set_cons_zero, List.set_cons_succ]
                  refine wpAnyH_take (i := 28) (oi := { dst := some 93, op := Op.binOp BinOp.eql 4 (Operand.tmp 91) (Operand.tmp 92) 4, type := 4, pos := "law.go:70", after := #[{ on := 26, ground := Ground.data }, { on := 27, ground := Ground.data }, { on := 25, ground := Ground.guard }], guard := some (25, true) }) (v := ?v24) rfl (by as_aux_lemma => kernel_rfl) (by as_aux_lemma => kernel_rfl) (by as_aux_lemma => kernel_rfl) (fun _ _ _ h => h) (Or.inl ⟨by rfl, ?hy24⟩) (by assumption) ?_
                  case hy24 => (intro w hSw; (try dsimp only at hSw); go_simp; try with_reducible rfl)
                  try simp only [Act.put, List.setIfInBounds_toArray, List.set_cons_zero, List.set_cons_succ]
                  refine wpAnyH_take (i := 29) (oi := { dst := some 94, op := Op.pick (Operand.tmp 90) (Operand.tmp 93) (Operand.const (Value.bool false)), type := 4, pos := "law.go:70", after := #[{ on := 25, ground := Ground.data }, { on := 28, ground := Ground.data }], guard := none }) (v := ?v25) rfl (by as_aux_lemma => kernel_rfl) (by as_aux_lemma => kernel_rfl) (by as_aux_lemma => kernel_rfl) (fun _ _ _ h => h) (Or.inl ⟨by rfl, ?hy25⟩) (by assumption) ?_
                  case hy25 => (intro w hSw; (try dsimp only at hSw); go_simp; try with_reducible rfl)
                  try simp only [Act.put, List.setIfInBounds_toArray, List.set_cons_zero, List.set_cons_succ]
                  refine wpAnyH_take (i := 30) (oi := { dst := some 95, op := Op.move (Operand.tmp 94), type := 4, pos := "law.go:70", after := #[{ on := 29, ground := Ground.data }, { on := 25, ground := Ground.chain }], guard := none }) (v := ?v26) rfl (by as_aux_lemma => kernel_rfl) (by as_aux_lemma => kernel_rfl) (by as_aux_lemma => kernel_rfl) (fun _ _ _ h => h) (Or.inl ⟨by rfl, ?hy26⟩) (by assumption) ?_
                  case hy26 => (intro w hSw; (try dsimp only at hSw); go_simp; try with_reducible rfl)
                  try simp only [Act.put, List.setIfInBounds_toArray, List.set_cons_zero, List.set_cons_succ]
                  as_aux_lemma =>
                    refine wpAnyH_take (i := 31) (oi := { dst := some 96, op := Op.move (Operand.tmp 15), type := 22, pos := "law.go:70", after := #[{ on := 30, ground := Ground.guard }], guard := some (30, true) }) (v := ?v27) rfl (by as_aux_lemma => kernel_rfl) (by as_aux_lemma => kernel_rfl) (by as_aux_lemma => kernel_rfl) (fun _ _ _ h => h) (Or.inl ⟨by rfl, ?hy27⟩) (by assumption) ?_
                    case hy27 => (intro w hSw; (try dsimp only at hSw); go_simp; try with_reducible rfl)
                    try simp only [Act.put, List.setIfInBounds_toArray, List.set_cons_zero, List.set_cons_succ]
                    refine wpAnyH_take (i := 32) (oi := { dst := some 97, op := Op.move (Operand.tmp 17), type := 22, pos := "law.go:70", after := #[{ on := 30, ground := Ground.guard }], guard := some (30, true) }) (v := ?v28) rfl (by as_aux_lemma => kernel_rfl) (by as_aux_lemma => kernel_rfl) (by as_aux_lemma => kernel_rfl) (fun _ _ _ h => h) (Or.inl ⟨by rfl, ?hy28⟩) (by assumption) ?_
                    case hy28 => (intro w hSw; (try dsimp only at hSw); go_simp; try with_reducible rfl)
                    try simp only [Act.put, List.setIfInBounds_toArray, List.set_cons_zero, List.set_cons_succ]
                    refine wpAnyH_ready (rs := [33]) (by as_aux_lemma => kernel_rfl) (by simp) ?_
                    refine AllReadyH.cons (o := { dst := some 98, op := Op.call { callee := Callee.value (Operand.func 13), args := #[Operand.tmp 96, Operand.tmp 97], argTypes := #[22, 22] }, type := 4, pos := "law.go:70", after := #[{ on := 31, ground := Ground.data }, { on := 32, ground := Ground.data }, { on := 30, ground := Ground.chain }, { on := 30, ground := Ground.guard }], guard := some (30, true) }) rfl (fun K hK => ?_) AllReadyH.nil
                    rw [if_pos (by rfl)]
                    go_simp
                    refine (texts_any _ ad1 ad2 wn c1 wn c2 WL WL (A3.out.below acc9) (A2.out.below acc9) (by omega) (by omega)).mono ?_
                    rintro e w15 ⟨rfl, hb15⟩
                    rw [decide_eq_true (rfl : WL = WL)]
                    replace acc := acc.trans (hb15.mono acc.size)
                    replace acc9 := acc9.trans (hb15.mono acc9.size)
                    clear hb15
                    dsimp only
                    refine hK.out _ _ (KEEP.out _ acc) (fun hHeld => ?_)
                    clear hK K
                    try simp only [Act.put, List.setIfInBounds_toArray, List.set_cons_zero, List.set_cons_succ]
                    refine wpAnyH_take (i := 34) (oi := { dst := some 99, op := Op.pick (Operand.tmp 95) (Operand.tmp 98) (Operand.const (Value.bool false)), type := 4, pos := "law.go:70", after := #[{ on := 30, ground := Ground.data }, { on := 33, ground := Ground.data }], guard := none }) (v := ?v29) rfl (by as_aux_lemma => kernel_rfl) (by as_aux_lemma => kernel_rfl) (by as_aux_lemma => kernel_rfl) (fun _ _ _ h => h) (Or.inl ⟨by rfl, ?hy29⟩) (by assumption) ?_
                    case hy29 => (intro w hSw; (try dsimp only at hSw); go_simp; try with_reducible rfl)
                    try simp only [Act.put, List.setIfInBounds_toArray, List.set_cons_zero, List.set_cons_succ]
                    refine wpAnyH_take (i := 35) (oi := { dst := some 100, op := Op.move (Operand.tmp 99), type := 4, pos := "law.go:70", after := #[{ on := 34, ground := Ground.data }, { on := 33, ground := Ground.chain }], guard := none }) (v := ?v30) rfl (by as_aux_lemma => kernel_rfl) (by as_aux_lemma => kernel_rfl) (by as_aux_lemma => kernel_rfl) (fun _ _ _ h => h) (Or.inl ⟨by rfl, ?hy30⟩) (by assumption) ?_
                    case hy30 => (intro w hSw; (try dsimp only at hSw); go_simp; try with_reducible rfl)
                    try simp only [Act.put, List.setIfInBounds_toArray, List.set_cons_zero, List.set_cons_succ]
                    as_aux_lemma =>
                      refine wpAnyH_take (i := 36) (oi := { dst := some 101, op := Op.move (Operand.tmp 16), type := 4, pos := "law.go:70", after := #[{ on := 35, ground := Ground.guard }], guard := some (35, true) }) (v := ?v31) rfl (by as_aux_lemma => kernel_rfl) (by as_aux_lemma => kernel_rfl) (by as_aux_lemma => kernel_rfl) (fun _ _ _ h => h) (Or.inl ⟨by rfl, ?hy31⟩) (by assumption) ?_
                      case hy31 => (intro w hSw; (try dsimp only at hSw); go_simp; try with_reducible rfl)
                      try simp only [Act.put, List.setIfInBounds_toArray, List.set_cons_zero, List.set_cons_succ]
                      refine wpAnyH_take (i := 37) (oi := { dst := some 102, op := Op.move (Operand.tmp 18), type := 4, pos := "law.go:70", after := #[{ on := 35, ground := Ground.guard }], guard := some (35, true) }) (v := ?v32) rfl (by as_aux_lemma => kernel_rfl) (by as_aux_lemma => kernel_rfl) (by as_aux_lemma => kernel_rfl) (fun _ _ _ h => h) (Or.inl ⟨by rfl, ?hy32⟩) (by assumption) ?_
                      case hy32 => (intro w hSw; (try dsimp only at hSw); go_simp; try with_reducible rfl)
                      try simp only [Act.put, List.setIfInBounds_toArray, List.set_cons_zero, List.set_cons_succ]
                      refine wpAnyH_take (i := 38) (oi := { dst := some 103, op := Op.binOp BinOp.eql 4 (Operand.tmp 101) (Operand.tmp 102) 4, type := 4, pos := "law.go:70", after := #[{ on := 36, ground := Ground.data }, { on := 37, ground := Ground.data }, { on := 35, ground := Ground.guard }], guard := some (35, true) }) (v := ?v33) rfl (by as_aux_lemma => kernel_rfl) (by as_aux_lemma => kernel_rfl) (by as_aux_lemma => kernel_rfl) (fun _ _ _ h => h) (Or.inl ⟨by rfl, ?hy33⟩) (by assumption) ?_
                      case hy33 => (intro w hSw; (try dsimp only at hSw); go_simp; try with_reducible rfl)
                      try simp only [Act.put, List.setIfInBounds_toArray, List.set_cons_zero, List.set_cons_succ]
                      refine wpAnyH_take (i := 39) (oi := { dst := some 104, op := Op.pick (Operand.tmp 100) (Operand.tmp 103) (Operand.const (Value.bool false)), type := 4, pos := "law.go:70", after := #[{ on := 35, ground := Ground.data }, { on := 38, ground := Ground.data }], guard := none }) (v := ?v34) rfl (by as_aux_lemma => kernel_rfl) (by as_aux_lemma => kernel_rfl) (by as_aux_lemma => kernel_rfl) (fun _ _ _ h => h) (Or.inl ⟨by rfl, ?hy34⟩) (by assumption) ?_
                      case hy34 => (intro w hSw; (try dsimp only at hSw); go_simp; try with_reducible rfl)
                      try simp only [Act.put, List.setIfInBounds_toArray, List.set_cons_zero, List.set_cons_succ]
                      refine wpAnyH_take (i := 40) (oi := { dst := some 105, op := Op.move (Operand.tmp 104), type := 4, pos := "law.go:70", after := #[{ on := 39, ground := Ground.data }, { on := 35, ground := Ground.chain }], guard := none }) (v := ?v35) rfl (by as_aux_lemma => kernel_rfl) (by as_aux_lemma => kernel_rfl) (by as_aux_lemma => kernel_rfl) (fun _ _ _ h => h) (Or.inl ⟨by rfl, ?hy35⟩) (by assumption) ?_
                      case hy35 => (intro w hSw; (try dsimp only at hSw); go_simp; try with_reducible rfl)
                      try simp only [Act.put, List.setIfInBounds_toArray, List.set_cons_zero, List.set_cons_succ]
                      as_aux_lemma =>
                        refine wpAnyH_take (i := 41) (oi := { dst := some 106, op := Op.load 26 (Operand.tmp 4), type := 26, pos := "law.go:70", after := #[{ on := 40, ground := Ground.guard }], guard := some (40, true) }) (v := ?v36) rfl (by as_aux_lemma => kernel_rfl) (by as_aux_lemma => kernel_rfl) (by as_aux_lemma => kernel_rfl) (fun _ _ _ h => h) (Or.inl ⟨by rfl, ?hy36⟩) (by assumption) ?_
                        case hy36 => (intro w hSw; (try dsimp only at hSw); go_simp; try with_reducible rfl)
                        try simp only [Act.put, List.setIfInBounds_toArray, List.set_cons_zero, List.set_cons_succ]
                        refine wpAnyH_take (i := 42) (oi := { dst := some 107, op := Op.move (Operand.tmp 9), type := 9, pos := "law.go:70", after := #[{ on := 40, ground := Ground.guard }], guard := some (40, true) }) (v := ?v37) rfl (by as_aux_lemma => kernel_rfl) (by as_aux_lemma => kernel_rfl) (by as_aux_lemma => kernel_rfl) (fun _ _ _ h => h) (Or.inl ⟨by rfl, ?hy37⟩) (by assumption) ?_
                        case hy37 => (intro w hSw; (try dsimp only at hSw); go_simp; try with_reducible rfl)
                        try simp only [Act.put, List.setIfInBounds_toArray, List.set_cons_zero, List.set_cons_succ]
                        refine wpAnyH_take (i := 43) (oi := { dst := some 108, op := Op.move (Operand.tmp 10), type := 9, pos := "law.go:70", after := #[{ on := 40, ground := Ground.guard }], guard := some (40, true) }) (v := ?v38) rfl (by as_aux_lemma => kernel_rfl) (by as_aux_lemma => kernel_rfl) (by as_aux_lemma => kernel_rfl) (fun _ _ _ h => h) (Or.inl ⟨by rfl, ?hy38⟩) (by assumption) ?_
                        case hy38 => (intro w hSw; (try dsimp only at hSw); go_simp; try with_reducible rfl)
                        try simp only [Act.put, List.setIfInBounds_toArray, List.set_cons_zero, List.set_cons_succ]
                        refine wpAnyH_take (i := 44) (oi := { dst := some 109, op := Op.move (Operand.tmp 3), type := 22, pos := "law.go:70", after := #[{ on := 40, ground := Ground.guard }], guard := some (40, true) }) (v := ?v39) rfl (by as_aux_lemma => kernel_rfl) (by as_aux_lemma => kernel_rfl) (by as_aux_lemma => kernel_rfl) (fun _ _ _ h => h) (Or.inl ⟨by rfl, ?hy39⟩) (by assumption) ?_
                        case hy39 => (intro w hSw; (try dsimp only at hSw); go_simp; try with_reducible rfl)
                        try simp only [Act.put, List.setIfInBounds_toArray, List.set_cons_zero, List.set_cons_succ]
                        as_aux_lemma =>
                          refine wpAnyH_take (i := 46) (oi := { dst := some 111, op := Op.load 26 (Operand.tmp 4), type := 26, pos := "law.go:70", after := #[{ on := 40, ground := Ground.guard }], guard := some (40, true) }) (v := ?v40) rfl (by as_aux_lemma => kernel_rfl) (by as_aux_lemma => kernel_rfl) (by as_aux_lemma => kernel_rfl) (fun _ _ _ h => h) (Or.inl ⟨by rfl, ?hy40⟩) (by assumption) ?_
                          case hy40 => (intro w hSw; (try dsimp only at hSw); go_simp; try with_reducible rfl)
                          try simp only [Act.put, List.setIfInBounds_toArray, List.set_cons_zero, List.set_cons_succ]
                          refine wpAnyH_take (i := 47) (oi := { dst := some 112, op := Op.move (Operand.tmp 9), type := 9, pos := "law.go:70", after := #[{ on := 40, ground := Ground.guard }], guard := some (40, true) }) (v := ?v41) rfl (by as_aux_lemma => kernel_rfl) (by as_aux_lemma => kernel_rfl) (by as_aux_lemma => kernel_rfl) (fun _ _ _ h => h) (Or.inl ⟨by rfl, ?hy41⟩) (by assumption) ?_
                          case hy41 => (intro w hSw; (try dsimp only at hSw); go_simp; try with_reducible rfl)
                          try simp only [Act.put, List.setIfInBounds_toArray, List.set_cons_zero, List.set_cons_succ]
                          refine wpAnyH_take (i := 48) (oi := { dst := some 113, op := Op.move (Operand.tmp 10), type := 9, pos := "law.go:70", after := #[{ on := 40, ground := Ground.guard }], guard := some (40, true) }) (v := ?v42) rfl (by as_aux_lemma => kernel_rfl) (by as_aux_lemma => kernel_rfl) (by as_aux_lemma => kernel_rfl) (fun _ _ _ h => h) (Or.inl ⟨by rfl, ?hy42⟩) (by assumption) ?_
                          case hy42 => (intro w hSw; (try dsimp only at hSw); go_simp; try with_reducible rfl)
                          try simp only [Act.put, List.setIfInBounds_toArray, List.set_cons_zero, List.set_cons_succ]
                          refine wpAnyH_take (i := 49) (oi := { dst := some 114, op := Op.move (Operand.tmp 3), type := 22, pos := "law.go:70", after := #[{ on := 40, ground := Ground.guard }], guard := some (40, true) }) (v := ?v43) rfl (by as_aux_lemma => kernel_rfl) (by as_aux_lemma => kernel_rfl) (by as_aux_lemma => kernel_rfl) (fun _ _ _ h => h) (Or.inl ⟨by rfl, ?hy43⟩) (by assumption) ?_
                          case hy43 => (intro w hSw; (try dsimp only at hSw); go_simp; try with_reducible rfl)
                          try simp only [Act.put, List.setIfInBounds_toArray, List.set_cons_zero, List.set_cons_succ]
                          refine wpAnyH_ready (rs := [45]) (by as_aux_lemma => kernel_rfl) (by simp) ?_
                          refine AllReadyH.cons (o := { dst := some 110, op := Op.call { callee := Callee.value (Operand.func 16), args := #[Operand.tmp 106, Operand.tmp 107, Operand.tmp 108, Operand.tmp 109], argTypes := #[26, 9, 9, 22] }, type := 4, pos := "law.go:70", after := #[{ on := 41, ground := Ground.data }, { on := 42, ground := Ground.data }, { on := 43, ground := Ground.data }, { on := 44, ground := Ground.data }, { on := 40, ground := Ground.chain }, { on := 40, ground := Ground.guard }], guard := some (40, true) }) rfl (fun K hK => ?_) AllReadyH.nil
                          rw [if_pos (by rfl)]
                          go_simp
                          refine (allowed_any _ ⟨ar, nr, cr, al, nl, cl, ap, np, cp⟩ T X Y ad n c l (HT1.out.below acc) HS.out (HG.out.below acc) hXs hYs (HA.out.below acc) (by omega)).mono ?_
                          rintro e w16 ⟨rfl, hb16⟩
                          rw [HAL.out]
                          replace acc := acc.trans (hb16.mono acc.size)
                          replace acc9 := acc9.trans (hb16.mono acc9.size)
                          clear hb16
                          dsimp only
                          refine hK.out _ _ (KEEP.out _ acc) (fun hHeld => ?_)
                          clear hK K
                          try simp only [Act.put, List.setIfInBounds_toArray, List.set_cons_zero, List.set_cons_succ]
                          refine wpAnyH_ready (rs := [50]) (by as_aux_lemma => kernel_rfl) (by simp) ?_
                          refine AllReadyH.cons (o := { dst := some 115, op := Op.call { callee := Callee.value (Operand.func 17), args := #[Operand.tmp 111, Operand.tmp 112, Operand.tmp 113, Operand.tmp 114], argTypes := #[26, 9, 9, 22] }, type := 4, pos := "law.go:70", after := #[{ on := 46, ground := Ground.data }, { on := 47, ground := Ground.data }, { on := 48, ground := Ground.data }, { on := 49, ground := Ground.data }, { on := 45, ground := Ground.chain }, { on := 40, ground := Ground.guard }], guard := some (40, true) }) rfl (fun K hK => ?_) AllReadyH.nil
                          rw [if_pos (by rfl)]
                          go_simp
                          refine (ref7allowed_any _ ⟨ar, nr, cr, al, nl, cl, ap, np, cp⟩ T X Y ad n c l (HT1.out.below acc) HS.out (by dsimp only; omega) hXs hYs (HA.out.below acc) (by omega)).mono ?_
                          rintro e w17 ⟨rfl, hb17⟩
                          rw [HAL.out]
                          replace acc := acc.trans (hb17.mono acc.size)
                          replace acc9 := acc9.trans (hb17.mono acc9.size)
                          clear hb17
                          dsimp only
                          refine hK.out _ _ (KEEP.out _ acc) (fun hHeld => ?_)
                          clear hK K
                          try simp only [Act.put, List.setIfInBounds_toArray, List.set_cons_zero, List.set_cons_succ]
                          as_aux_lemma =>
                            refine wpAnyH_take (i := 51) (oi := { dst := some 116, op := Op.binOp BinOp.eql 4 (Operand.tmp 110) (Operand.tmp 115) 4, type := 4, pos := "law.go:70", after := #[{ on := 45, ground := Ground.data }, { on := 50, ground := Ground.data }, { on := 40, ground := Ground.guard }], guard := some (40, true) }) (v := ?v44) rfl (by as_aux_lemma => kernel_rfl) (by as_aux_lemma => kernel_rfl) (by as_aux_lemma => kernel_rfl) (fun _ _ _ h => h) (Or.inl ⟨by rfl, ?hy44⟩) (by assumption) ?_
                            case hy44 => (intro w hSw; (try dsimp only at hSw); go_simp; try with_reducible rfl)
                            try simp only [Act.put, List.setIfInBounds_toArray, List.set_cons_zero, List.set_cons_succ]
                            refine wpAnyH_take (i := 52) (oi := { dst := some 117, op := Op.pick (Operand.tmp 105) (Operand.tmp 116) (Operand.const (Value.bool false)), type := 4, pos := "law.go:70", after := #[{ on := 40, ground := Ground.data }, { on := 51, ground := Ground.data }], guard := none }) (v := ?v45) rfl (by as_aux_lemma => kernel_rfl) (by as_aux_lemma => kernel_rfl) (by as_aux_lemma => kernel_rfl) (fun _ _ _ h => h) (Or.inl ⟨by rfl, ?hy45⟩) (by assumption) ?_
                            case hy45 => (intro w hSw; (try dsimp only at hSw); go_simp; try with_reducible rfl)
                            try simp only [Act.put, List.setIfInBounds_toArray, List.set_cons_zero, List.set_cons_succ]
                            refine wpAnyH_take (i := 53) (oi := { dst := some 118, op := Op.move (Operand.tmp 117), type := 4, pos := "law.go:70", after := #[{ on := 52, ground := Ground.data }, { on := 50, ground := Ground.chain }], guard := none }) (v := ?v46) rfl (by as_aux_lemma => kernel_rfl) (by as_aux_lemma => kernel_rfl) (by as_aux_lemma => kernel_rfl) (fun _ _ _ h => h) (Or.inl ⟨by rfl, ?hy46⟩) (by assumption) ?_
                            case hy46 => (intro w hSw; (try dsimp only at hSw); go_simp; try with_reducible rfl)
                            try simp only [Act.put, List.setIfInBounds_toArray, List.set_cons_zero, List.set_cons_succ]
                            as_aux_lemma =>
                              refine wpAnyH_ready (rs := [54]) (by as_aux_lemma => kernel_rfl) (by simp) ?_
                              refine AllReadyH.cons (o := { dst := some 119, op := Op.call { callee := Callee.value (Operand.func 18), args := #[], argTypes := #[] }, type := 4, pos := "law.go:70", after := #[{ on := 53, ground := Ground.chain }, { on := 53, ground := Ground.guard }], guard := some (53, true) }) rfl (fun K hK => ?_) AllReadyH.nil
                              rw [if_pos (by rfl)]
                              go_simp
                              refine (known_any _ (HG.out.below acc)).mono ?_
                              rintro e w18 ⟨rfl, hb18⟩
                              replace acc := acc.trans (hb18.mono acc.size)
                              replace acc9 := acc9.trans (hb18.mono acc9.size)
                              clear hb18
                              dsimp only
                              refine hK.out _ _ (KEEP.out _ acc) (fun hHeld => ?_)
                              clear hK K
                              try simp only [Act.put, List.setIfInBounds_toArray, List.set_cons_zero, List.set_cons_succ]
                              refine wpAnyH_take (i := 55) (oi := { dst := some 120, op := Op.pick (Operand.tmp 118) (Operand.tmp 119) (Operand.const (Value.bool false)), type := 4, pos := "law.go:70", after := #[{ on := 53, ground := Ground.data }, { on := 54, ground := Ground.data }], guard := none }) (v := ?v47) rfl (by as_aux_lemma => kernel_rfl) (by as_aux_lemma => kernel_rfl) (by as_aux_lemma => kernel_rfl) (fun _ _ _ h => h) (Or.inl ⟨by rfl, ?hy47⟩) (by assumption) ?_
                              case hy47 => (intro w hSw; (try dsimp only at hSw); go_simp; try with_reducible rfl)
                              try simp only [Act.put, List.setIfInBounds_toArray, List.set_cons_zero, List.set_cons_succ]
                              refine wpAnyH_take (i := 56) (oi := { dst := some 8, op := Op.assign (Operand.tmp 120), type := 4, pos := "law.go:70", after := #[{ on := 55, ground := Ground.data }, { on := 54, ground := Ground.chain }, { on := 0, ground := Ground.phase }, { on := 1, ground := Ground.phase }, { on := 2, ground := Ground.phase }, { on := 3, ground := Ground.phase }, { on := 4, ground := Ground.phase }, { on := 5, ground := Ground.phase }, { on := 6, ground := Ground.phase }, { on := 7, ground := Ground.phase }, { on := 8, ground := Ground.phase }, { on := 9, ground := Ground.phase }, { on := 10, ground := Ground.phase }, { on := 11, ground := Ground.phase }, { on := 12, ground := Ground.phase }, { on := 13, ground := Ground.phase }, { on := 14, ground := Ground.phase }, { on := 15, ground := Ground.phase }, { on := 16, ground := Ground.phase }, { on := 17, ground := Ground.phase }, { on := 18, ground := Ground.phase }, { on := 19, ground := Ground.phase }, { on := 20, ground := Ground.phase }, { on := 21, ground := Ground.phase }, { on := 22, ground := Ground.phase }, { on := 23, ground := Ground.phase }, { on := 24, ground := Ground.phase }, { on := 25, ground := Ground.phase }, { on := 26, ground := Ground.phase }, { on := 27, ground := Ground.phase }, { on := 28, ground := Ground.phase }, { on := 29, ground := Ground.phase }, { on := 30, ground := Ground.phase }, { on := 31, ground := Ground.phase }, { on := 32, ground := Ground.phase }, { on := 33, ground := Ground.phase }, { on := 34, ground := Ground.phase }, { on := 35, ground := Ground.phase }, { on := 36, ground := Ground.phase }, { on := 37, ground := Ground.phase }, { on := 38, ground := Ground.phase }, { on := 39, ground := Ground.phase }, { on := 40, ground := Ground.phase }, { on := 41, ground := Ground.phase }, { on := 42, ground := Ground.phase }, { on := 43, ground := Ground.phase }, { on := 44, ground := Ground.phase }, { on := 45, ground := Ground.phase }, { on := 46, ground := Ground.phase }, { on := 47, ground := Ground.phase }, { on := 48, ground := Ground.phase }, { on := 49, ground := Ground.phase }, { on := 50, ground := Ground.phase }, { on := 51, ground := Ground.phase }, { on := 52, ground := Ground.phase }, { on := 53, ground := Ground.phase }, { on := 54, ground := Ground.phase }, { on := 55, ground := Ground.phase }], guard := none }) (v := ?v48) rfl (by as_aux_lemma => kernel_rfl) (by as_aux_lemma => kernel_rfl) (by as_aux_lemma => kernel_rfl) (fun _ _ _ h => h) (Or.inl ⟨by rfl, ?hy48⟩) (by assumption) ?_
                              case hy48 => (intro w hSw; (try dsimp only at hSw); go_simp; try with_reducible rfl)
                              try simp only [Act.put, List.setIfInBounds_toArray, List.set_cons_zero, List.set_cons_succ]
                              refine wpAnyH_done (by as_aux_lemma => kernel_rfl) ?_ _
                              go_wp2
                              go_ret
                              exact ⟨rfl, ACC.out.trans (acc.mono ACC.out.size)⟩
end Go.Proofs.YtcleonpckgfdhaaGreatDoor
