/-
  RouteWalks: the law's walk.
-/
import Derived.Test.YtcleonpckgfdhaaDoorRtKnown
set_option linter.unusedVariables false
set_option linter.unusedSimpArgs false
set_option maxRecDepth 100000
namespace Go.Proofs.YtcleonpckgfdhaaDoor
open Go Go.RowKit Go.Lib Go.Shelf

set_option maxHeartbeats 8000000 in
theorem routeWalks_walk (v : Tv) (T : Topo) (a b : Int) (hk : bulkT T ≤ 1048576) (_ : (Lit.int .i64 a).wf = true) (_ : (Lit.int .i64 b).wf = true) (w : World) (hg : Glob w) (hT : Tt w v T) :
    Calls Tryd.prog 4 #[.agg #[.slice v.ar v.nr v.cr, .slice v.al v.nl v.cl, .slice v.ap v.np v.cp], .int .i64 a, .int .i64 b] w fun e w' => e = .returned (.bool true) ∧ Below w.heap.size w w' := by
  obtain ⟨ar, nr, cr, al, nl, cl, ap, np, cp⟩ := v
  dsimp only
  obtain ⟨w1, hw1⟩ : ∃ w1, w1 = w.alloc (.cells #[.slice ar nr cr, .slice al nl cl, .slice ap np cp] 26) := ⟨_, rfl⟩
  obtain ⟨acc0, hz, kp⟩ := box_keep hw1
  have keep : ∀ W, Below w1.heap.size w1 W → W.cell? ⟨w.heap.size, 0, none⟩ = some (.slice ar nr cr) ∧ W.cell? ⟨w.heap.size, 1, none⟩ = some (.slice al nl cl) ∧ W.cell? ⟨w.heap.size, 2, none⟩ = some (.slice ap np cp) := fun W h => ⟨kp W h 0 _ rfl, kp W h 1 _ rfl, kp W h 2 _ rfl⟩
  have hB := big_any w1 ⟨ar, nr, cr, al, nl, cl, ap, np, cp⟩ T (hT.below acc0) (by omega)
  have hl1 : T.realms.length = nr := hT.r.len
  have hl2 : T.links.length = nl := hT.l.len
  have hl3 : T.paths.length = np := hT.p.len
  have HG := Lib.hid (hg.below acc0)
  have KEEP := Lib.hid keep
  have ACC := Lib.hid acc0
  have HW1 := Lib.hid hw1
  have HT1 := Lib.hid (hT.below acc0)
  dsimp only at hB
  rw [hw1] at hB
  by_cases hbig : 3000 < bulkT T
  · rw [decide_eq_true hbig] at hB
    clear hbig hk hl1 hl2 hl3 hw1 acc0 hz kp keep hg hT
    go_enter Tryd.func4, Tryd.ntmps4
    go_wp2_with (first | (go_at_call 11; refine hB.mono ?_; rintro e w2 ⟨rfl, hb2⟩; rw [← HW1.out] at hb2; have acc : Below w1.heap.size w1 w2 := hb2; clear hb2; obtain ⟨a0, a1, a2⟩ := KEEP.out w2 acc))
    go_ret
    exact ⟨rfl, ACC.out.trans (acc.mono ACC.out.size)⟩
  · rw [decide_eq_false hbig] at hB
    have hbk : bulkT T ≤ 3000 := by omega
    obtain ⟨hr1, hr2⟩ := bulk_realms hbk
    have hr3 := bulk_links hbk
    obtain ⟨hS, hr4⟩ := bulk_short hbk (by omega)
    have hRI := fun W (h : Below w1.heap.size w1 W) => refIs7_any W ⟨ar, nr, cr, al, nl, cl, ap, np, cp⟩ T ((hT.below acc0).below h) (fun r hr => by have := hr2 r hr; omega) (by dsimp only; omega) (by dsimp only; omega) (by dsimp only; omega)
    dsimp only at hRI
    have HRI := Lib.hid hRI
    by_cases hok : topoOk T
    case neg =>
      have HOK := Lib.hid (decide_eq_false hok)
      clear hbig hk hl1 hl2 hl3 hw1 acc0 hz kp keep hg hT hbk hr1 hr2 hr3 hS hr4 hRI hok
      go_enter Tryd.func4, Tryd.ntmps4
      go_wp2_with (first | (go_at_call 11; refine hB.mono ?_; rintro e w2 ⟨rfl, hb2⟩; rw [← HW1.out] at hb2; have acc : Below w1.heap.size w1 w2 := hb2; clear hb2; obtain ⟨a0, a1, a2⟩ := KEEP.out w2 acc) | (go_at_call 13; refine (HRI.out _ acc).mono ?_; rintro e w3 ⟨rfl, hb3⟩; (first | rw [HOK.out] | skip); replace acc := acc.trans (hb3.mono acc.size); clear hb3 a0 a1 a2; obtain ⟨a0, a1, a2⟩ := KEEP.out w3 acc))
      go_ret
      exact ⟨rfl, ACC.out.trans (acc.mono ACC.out.size)⟩
    have HOK := Lib.hid (decide_eq_true hok)
    have hn1 : 1 ≤ nr := by have := hok.1.1; omega
    have hn6 : nr ≤ 6 := by have := hok.1.2.1; omega
    have hnl : nl ≤ 20 := by have := hok.2.1.1; omega
    have hnp : np ≤ 8 := by have := hok.2.2.1; omega
    have hPK : ∀ W, Below w1.heap.size w1 W → ∀ k : Int, Calls Tryd.prog 15 #[.agg #[.slice ar nr cr, .slice al nl cl, .slice ap np cp], .int .i64 k] W fun e w' => ∃ X : ByteArray, e = .returned (.string X) ∧ (X.data.toList ∈ T.realms ∧ X.size < 90000) ∧ Below W.heap.size W w' := fun W h k => by
      refine (pick_any W ⟨ar, nr, cr, al, nl, cl, ap, np, cp⟩ T k ((hT.below acc0).below h) (by dsimp only; omega) (by dsimp only; omega)).mono ?_
      rintro e w' ⟨rfl, hb⟩
      have hm := pick_mem (T := T) (by omega) k
      exact ⟨_, rfl, ⟨hm, by have := hr2 _ hm; show (pickOf T k).length < 90000; omega⟩, hb⟩
    have HPK := Lib.hid hPK
    have HS := Lib.hid hS
    have HOKT := Lib.hid hok
    have HLN := Lib.hid hl3
    have HZ := Lib.hid hz
    have tok : True := trivial
    clear hbig hk hl1 hl2 hl3 hw1 acc0 hz kp keep hg hT hbk hr1 hr2 hr3 hS hr4 hRI hok hPK
    go_enter Tryd.func4, Tryd.ntmps4
    go_wp2_with (first | (go_at_call 11; refine hB.mono ?_; rintro e w2 ⟨rfl, hb2⟩; rw [← HW1.out] at hb2; have acc : Below w1.heap.size w1 w2 := hb2; clear hb2; obtain ⟨a0, a1, a2⟩ := KEEP.out w2 acc) | (go_at_call 13; refine (HRI.out _ acc).mono ?_; rintro e w3 ⟨rfl, hb3⟩; (first | rw [HOK.out] | skip); replace acc := acc.trans (hb3.mono acc.size); clear hb3 a0 a1 a2; obtain ⟨a0, a1, a2⟩ := KEEP.out w3 acc))
    clear hB a0 a1 a2
    have acc := acc.drew
    have KEEP2 := Lib.hid KEEP.out
    go_region_held3 (fun W => W.cell? ⟨w.heap.size, 0, none⟩ = some (.slice ar nr cr) ∧ W.cell? ⟨w.heap.size, 1, none⟩ = some (.slice al nl cl) ∧ W.cell? ⟨w.heap.size, 2, none⟩ = some (.slice ap np cp)) (first | exact KEEP.out _ acc | go_keep)
      (first
        | (go_at_call 15; have _t := tok; refine (HPK.out _ acc _).mono ?_; rintro e w4 ⟨X, rfl, hX, hb4⟩; replace acc := acc.trans (hb4.mono acc.size); clear hb4 tok)
        | (go_at_call 15; refine (HPK.out _ acc _).mono ?_; rintro e w5 ⟨Y, rfl, hY, hb5⟩; replace acc := acc.trans (hb5.mono acc.size); clear hb5))
    obtain ⟨hXm, hXs⟩ := hX
    obtain ⟨hYm, hYs⟩ := hY
    have HXM := Lib.hid hXm
    have HYM := Lib.hid hYm
    have AC5 := Lib.hid acc
    clear hXm hYm
    obtain ⟨a0, a1, a2⟩ := KEEP.out _ acc
    have kxy := eq_bytes X Y
    cases hwk : walkOf T X.data.toList Y.data.toList with
    | none =>
      have HWK := Lib.hid hwk
      clear hwk kxy
      go_wp2_with (first | (go_at_call 16; refine (walk_any _ ⟨ar, nr, cr, al, nl, cl, ap, np, cp⟩ T X Y (HT1.out.below acc) HS.out (by dsimp only; omega) (HG.out.below acc) hXs hYs).mono ?_; intro e w7 hp; rw [HWK.out] at hp; obtain ⟨rfl, hb7⟩ := hp; replace acc := acc.trans (hb7.mono acc.size); clear hb7) | (go_at_call 14; refine (known_any _ (HG.out.below acc)).mono ?_; rintro e w9 ⟨rfl, hb9⟩; replace acc := acc.trans (hb9.mono acc.size); clear hb9))
      go_ret
      exact ⟨rfl, ACC.out.trans (acc.mono ACC.out.size)⟩
    | some L =>
      have HWK := Lib.hid hwk
      by_cases q : X.data.toList = Y.data.toList
      · rw [decide_eq_true q] at kxy
        have hL : L = [] := by rw [q, walk_self] at hwk; exact (Option.some.inj hwk).symm
        subst hL
        clear q hwk
        go_wp2_with (first | (go_at_call 16; refine (walk_any _ ⟨ar, nr, cr, al, nl, cl, ap, np, cp⟩ T X Y (HT1.out.below acc) HS.out (by dsimp only; omega) (HG.out.below acc) hXs hYs).mono ?_; intro e w7 hp; rw [HWK.out] at hp; obtain ⟨adw, cw, rfl, hAw, hb7⟩ := hp; replace acc := acc.trans (hb7.mono acc.size); clear hb7; clear hAw) | (go_at_call 14; refine (known_any _ (HG.out.below acc)).mono ?_; rintro e w9 ⟨rfl, hb9⟩; replace acc := acc.trans (hb9.mono acc.size); clear hb9))
        go_ret
        exact ⟨rfl, ACC.out.trans (acc.mono ACC.out.size)⟩
      · rw [decide_eq_false q] at kxy
        obtain ⟨hnd, hlk, h5⟩ := walk_ok hwk q
        have HND := Lib.hid hnd
        have HLKS := Lib.hid hlk
        obtain ⟨m, hm⟩ : ∃ m, m = L.length := ⟨_, rfl⟩
        rw [← hm] at h5
        have HM := Lib.hid hm
        clear q hwk hnd hlk hm
        go_wp2_with (first
          | (go_at_call 16; refine (walk_any _ ⟨ar, nr, cr, al, nl, cl, ap, np, cp⟩ T X Y (HT1.out.below acc) HS.out (by dsimp only; omega) (HG.out.below acc) hXs hYs).mono ?_; intro e w7 hp; rw [HWK.out] at hp; unfold WalkPost at hp; simp only at hp; rw [← HM.out] at hp; obtain ⟨adw, cw, rfl, hAw, hb7⟩ := hp; replace acc := acc.trans (hb7.mono acc.size); clear hb7)
          | (at_builtin; refine wpList_append_texts _ rfl (.tmp 51) (.tmp 52) rfl w7.heap.size (some ⟨w7.heap.size, 0, none⟩) 1 1 [X.data.toList] rfl (wpList_lit_text X.data.toList) adw m cw L rfl (hAw.below ((Below.refl _ _).alloc (Nat.le_refl _) _)) (by omega) (by omega) (by simp) ?_; intro ad8 c8 w8 hown8 hb8; have acc8 : Below w7.heap.size w7 w8 := ((Below.refl _ _).alloc (Nat.le_refl _) _).trans hb8; clear hb8 hAw)
          | (at_builtin; refine wpList_append_text _ rfl (.tmp 53) (.tmp 55) rfl w7.heap.size ad8 (1 + m) c8 ([X.data.toList] ++ L) rfl (hown8.alloc _) w8.heap.size Y.data.toList rfl (heap_alloc_new _ _) (by omega) (by have := acc8.size; simp; omega) ?_; intro g9 c9 w10 hown9 hb9; have acc10 : Below w7.heap.size w7 w10 := acc8.trans (((Below.refl _ _).alloc acc8.size _).trans hb9); clear hb9 hown8))
        have hcap := own_cap hown9
        have hAt := At.owns hown9
        obtain ⟨gb, go, hge, hgl, hgc⟩ := hAt.cell (by omega)
        simp only [Option.some.injEq, Addr.mk.injEq] at hge
        obtain ⟨rfl, rfl, _⟩ := hge
        have hNm : ([X.data.toList] ++ L ++ [Y.data.toList]).length = 1 + m + 1 := hAt.len
        obtain ⟨P, hP⟩ : ∃ P, P = [X.data.toList] ++ L ++ [Y.data.toList] := ⟨_, rfl⟩
        rw [← hP] at HND HLKS hAt hgc hNm
        obtain ⟨N, hN⟩ : ∃ N, N = 1 + m + 1 := ⟨_, rfl⟩
        rw [← hN] at hAt hgc hNm hcap ⊢
        have hN7 : N ≤ 7 := by omega
        have hN2 : 2 ≤ N := by omega
        have HAT := Lib.hid hAt
        have HGC := Lib.hid hgc
        have HNM := Lib.hid hNm
        have AC7 := Lib.hid (acc.trans (acc10.mono acc.size))
        have HN := Lib.hid hN
        have HNDA := Lib.hid ((nodup_at P).1 HND.out)
        clear acc acc8 acc10 hown9 hAt hgc hNm hN hP a0 a1 a2
        go_wp2
        go_loopg [12] N (fun gg s12 wr => ∃ k : Nat, 1 ≤ k ∧ k ≤ N ∧ N - k ≤ gg ∧ s12 = .int .i64 k ∧ Aside (Below w10.heap.size w10 wr))
        case atStart => exact ⟨1, by omega, by omega, by omega, rfl, Below.refl _ _⟩
        case round =>
          obtain ⟨k, hk1, hk, hgg, rfl, HB⟩ := hrel
          by_cases hlt : k < N
          · have hltz : (k : Int) < (N : Int) := by omega
            have hsub : (k : Int) - 1 = ((k - 1 : Nat) : Int) := by omega
            have hk2 : ((k - 1 : Nat) : Int) < (N : Int) := by omega
            have hwr : IntKind.i64.wrap ((k : Int) - 1) = ((k - 1 : Nat) : Int) := by rw [IntKind.wrap_i64]; omega
            have hwr2 : IntKind.i64.wrap ((k - 1 : Nat) : Int) = ((k - 1 : Nat) : Int) := by rw [IntKind.wrap_i64]; omega
            have hz0 : (0 : Int) ≤ ((k - 1 : Nat) : Int) := by omega
            have hz1 : (0 : Int) ≤ (k : Int) := by omega
            have hkc : (k : Int) ≤ (c9 : Int) := by omega
            obtain ⟨x, hx⟩ : ∃ x : ByteArray, x = ⟨P[k]!.toArray⟩ := ⟨_, rfl⟩
            obtain ⟨p, hp⟩ : ∃ p : ByteArray, p = ⟨P[k - 1]!.toArray⟩ := ⟨_, rfl⟩
            have hxd : x.data.toList = P[k]! := by rw [hx]
            have hpd : p.data.toList = P[k - 1]! := by rw [hp]
            have kx := HGC.out k hlt
            have kp := HGC.out (k - 1) (by omega)
            rw [← hx, Nat.zero_add] at kx
            rw [← hp, Nat.zero_add] at kp
            have hlk := HLKS.out (k - 1) (by have := HNM.out; omega)
            rw [show k - 1 + 1 = k by omega, ← hxd, ← hpd] at hlk
            have hnin := HNDA.out k (by have := HNM.out; omega)
            rw [← hxd] at hnin
            have hpp := place_pos (P.take k) x.data.toList
            rw [decide_eq_false hnin] at hpp
            have keep : ∀ W, Below w10.heap.size w10 W → (W.cell? ⟨w.heap.size, 0, none⟩ = some (.slice ar nr cr) ∧ W.cell? ⟨w.heap.size, 1, none⟩ = some (.slice al nl cl) ∧ W.cell? ⟨w.heap.size, 2, none⟩ = some (.slice ap np cp)) ∧ W.cell? ⟨g9, k, none⟩ = some (.string x) ∧ W.cell? ⟨g9, k - 1, none⟩ = some (.string p) := fun W hW => ⟨KEEP.out W (AC7.out.trans (hW.mono AC7.out.size)), (hW.cell (p := ⟨_, k, none⟩) hgl).trans kx, (hW.cell (p := ⟨_, k - 1, none⟩) hgl).trans kp⟩
            have hPLC := fun W (hW : Below w10.heap.size w10 W) => place_any W (some ⟨g9, 0, none⟩) k c9 (P.take k) x ((HAT.out.below hW).take (by omega)) (by omega)
            have KP := Lib.hid keep
            have HPLC := Lib.hid hPLC
            have HLK := Lib.hid hlk
            have acc1 := HB.out.drew
            clear hx hp hxd hpd kx kp hlk hnin keep hPLC
            go_wp2_with fail
            refine wp_region_held_drew (S := (fun W => (W.cell? ⟨w.heap.size, 0, none⟩ = some (.slice ar nr cr) ∧ W.cell? ⟨w.heap.size, 1, none⟩ = some (.slice al nl cl) ∧ W.cell? ⟨w.heap.size, 2, none⟩ = some (.slice ap np cp)) ∧ W.cell? ⟨g9, k, none⟩ = some (.string x) ∧ W.cell? ⟨g9, k - 1, none⟩ = some (.string p))) (by kernel_rfl) (KP.out _ acc1) (fun hHeld => ?_)
            refine wpAnyH_take (i := 0) (oi := { dst := some 63, op := Op.load 26 (Operand.tmp 3), type := 26, pos := "law.go:88", after := #[], guard := none }) (v := ?v1) rfl (by kernel_rfl) (by kernel_rfl) (by kernel_rfl) (fun _ _ _ h => h) (Or.inl ⟨by rfl, ?hy1⟩) (by assumption) ?_
            case hy1 => (intro w hSw; (try dsimp only at hSw); go_simp; try with_reducible rfl)
            try simp only [Act.put, List.setIfInBounds_toArray, List.set_cons_zero, List.set_cons_succ]
            refine wpAnyH_take (i := 1) (oi := { dst := some 64, op := Op.move (Operand.tmp 11), type := 22, pos := "law.go:88", after := #[], guard := none }) (v := ?v2) rfl (by kernel_rfl) (by kernel_rfl) (by kernel_rfl) (fun _ _ _ h => h) (Or.inl ⟨by rfl, ?hy2⟩) (by assumption) ?_
            case hy2 => (intro w hSw; (try dsimp only at hSw); go_simp; try with_reducible rfl)
            try simp only [Act.put, List.setIfInBounds_toArray, List.set_cons_zero, List.set_cons_succ]
            refine wpAnyH_take (i := 2) (oi := { dst := some 65, op := Op.move (Operand.tmp 12), type := 3, pos := "law.go:88", after := #[], guard := none }) (v := ?v3) rfl (by kernel_rfl) (by kernel_rfl) (by kernel_rfl) (fun _ _ _ h => h) (Or.inl ⟨by rfl, ?hy3⟩) (by assumption) ?_
            case hy3 => (intro w hSw; (try dsimp only at hSw); go_simp; try with_reducible rfl)
            try simp only [Act.put, List.setIfInBounds_toArray, List.set_cons_zero, List.set_cons_succ]
            refine wpAnyH_take (i := 3) (oi := { dst := some 66, op := Op.binOp BinOp.sub 3 (Operand.tmp 65) (Operand.const (Value.int IntKind.i64 1)) 3, type := 3, pos := "law.go:88", after := #[{ on := 2, ground := Ground.data }], guard := none }) (v := ?v4) rfl (by kernel_rfl) (by kernel_rfl) (by kernel_rfl) (fun _ _ _ h => h) (Or.inl ⟨by rfl, ?hy4⟩) (by assumption) ?_
            case hy4 => (intro w hSw; (try dsimp only at hSw); go_simp; try with_reducible rfl)
            try simp only [Act.put, List.setIfInBounds_toArray, List.set_cons_zero, List.set_cons_succ]
            refine wpAnyH_take (i := 4) (oi := { dst := some 67, op := Op.indexAddr 22 (Operand.tmp 64) (Operand.tmp 66), type := 0, pos := "law.go:88", after := #[{ on := 1, ground := Ground.data }, { on := 3, ground := Ground.data }], guard := none }) (v := ?v5) rfl (by kernel_rfl) (by kernel_rfl) (by kernel_rfl) (fun _ _ _ h => h) (Or.inl ⟨by rfl, ?hy5⟩) (by assumption) ?_
            case hy5 => (intro w hSw; (try dsimp only at hSw); go_simp; try with_reducible rfl)
            try simp only [Act.put, List.setIfInBounds_toArray, List.set_cons_zero, List.set_cons_succ]
            refine wpAnyH_take (i := 5) (oi := { dst := some 68, op := Op.load 9 (Operand.tmp 67), type := 9, pos := "law.go:88", after := #[{ on := 4, ground := Ground.data }], guard := none }) (v := ?v6) rfl (by kernel_rfl) (by kernel_rfl) (by kernel_rfl) (fun _ _ _ h => h) (Or.inl ⟨by rfl, ?hy6⟩) (by assumption) ?_
            case hy6 => (intro w hSw; (try dsimp only at hSw); go_simp; try with_reducible rfl)
            try simp only [Act.put, List.setIfInBounds_toArray, List.set_cons_zero, List.set_cons_succ]
            refine wpAnyH_take (i := 6) (oi := { dst := some 69, op := Op.move (Operand.tmp 11), type := 22, pos := "law.go:88", after := #[], guard := none }) (v := ?v7) rfl (by kernel_rfl) (by kernel_rfl) (by kernel_rfl) (fun _ _ _ h => h) (Or.inl ⟨by rfl, ?hy7⟩) (by assumption) ?_
            case hy7 => (intro w hSw; (try dsimp only at hSw); go_simp; try with_reducible rfl)
            try simp only [Act.put, List.setIfInBounds_toArray, List.set_cons_zero, List.set_cons_succ]
            refine wpAnyH_take (i := 7) (oi := { dst := some 70, op := Op.move (Operand.tmp 12), type := 3, pos := "law.go:88", after := #[], guard := none }) (v := ?v8) rfl (by kernel_rfl) (by kernel_rfl) (by kernel_rfl) (fun _ _ _ h => h) (Or.inl ⟨by rfl, ?hy8⟩) (by assumption) ?_
            case hy8 => (intro w hSw; (try dsimp only at hSw); go_simp; try with_reducible rfl)
            try simp only [Act.put, List.setIfInBounds_toArray, List.set_cons_zero, List.set_cons_succ]
            refine wpAnyH_take (i := 8) (oi := { dst := some 71, op := Op.indexAddr 22 (Operand.tmp 69) (Operand.tmp 70), type := 0, pos := "law.go:88", after := #[{ on := 6, ground := Ground.data }, { on := 7, ground := Ground.data }], guard := none }) (v := ?v9) rfl (by kernel_rfl) (by kernel_rfl) (by kernel_rfl) (fun _ _ _ h => h) (Or.inl ⟨by rfl, ?hy9⟩) (by assumption) ?_
            case hy9 => (intro w hSw; (try dsimp only at hSw); go_simp; try with_reducible rfl)
            try simp only [Act.put, List.setIfInBounds_toArray, List.set_cons_zero, List.set_cons_succ]
            refine wpAnyH_take (i := 9) (oi := { dst := some 72, op := Op.load 9 (Operand.tmp 71), type := 9, pos := "law.go:88", after := #[{ on := 8, ground := Ground.data }], guard := none }) (v := ?v10) rfl (by kernel_rfl) (by kernel_rfl) (by kernel_rfl) (fun _ _ _ h => h) (Or.inl ⟨by rfl, ?hy10⟩) (by assumption) ?_
            case hy10 => (intro w hSw; (try dsimp only at hSw); go_simp; try with_reducible rfl)
            try simp only [Act.put, List.setIfInBounds_toArray, List.set_cons_zero, List.set_cons_succ]
            refine wpAnyH_ready (rs := [10]) (by kernel_rfl) (by simp) ?_
            refine AllReadyH.cons (o := { dst := some 73, op := Op.call { callee := Callee.value (Operand.func 17), args := #[Operand.tmp 63, Operand.tmp 68, Operand.tmp 72], argTypes := #[26, 9, 9] }, type := 4, pos := "law.go:88", after := #[{ on := 0, ground := Ground.data }, { on := 5, ground := Ground.data }, { on := 9, ground := Ground.data }], guard := none }) rfl (fun K hK => ?_) AllReadyH.nil
            go_wp2_with (go_at_call 17; refine (refLinked_any _ ⟨ar, nr, cr, al, nl, cl, ap, np, cp⟩ T p x (HT1.out.below (AC7.out.trans (acc1.mono AC7.out.size))) (by dsimp only; omega)).mono ?_; rintro e w11 ⟨rfl, hb11⟩; rw [HLK.out]; replace acc1 := acc1.trans (hb11.mono acc1.size); clear hb11)
            refine hK.out _ _ (KP.out _ acc1) (fun hHeld => ?_)
            clear hK K
            try simp only [Act.put, List.setIfInBounds_toArray, List.set_cons_zero, List.set_cons_succ]
            refine wpAnyH_take (i := 11) (oi := { dst := some 74, op := Op.unOp UnOp.not 4 (Operand.tmp 73), type := 4, pos := "law.go:88", after := #[{ on := 10, ground := Ground.data }], guard := none }) (v := ?v11) rfl (by kernel_rfl) (by kernel_rfl) (by kernel_rfl) (fun _ _ _ h => h) (Or.inl ⟨by rfl, ?hy11⟩) (by assumption) ?_
            case hy11 => (intro w hSw; (try dsimp only at hSw); go_simp; try with_reducible rfl)
            try simp only [Act.put, List.setIfInBounds_toArray, List.set_cons_zero, List.set_cons_succ]
            refine wpAnyH_take (i := 12) (oi := { dst := some 75, op := Op.move (Operand.tmp 74), type := 4, pos := "law.go:88", after := #[{ on := 11, ground := Ground.data }, { on := 10, ground := Ground.chain }], guard := none }) (v := ?v12) rfl (by kernel_rfl) (by kernel_rfl) (by kernel_rfl) (fun _ _ _ h => h) (Or.inl ⟨by rfl, ?hy12⟩) (by assumption) ?_
            case hy12 => (intro w hSw; (try dsimp only at hSw); go_simp; try with_reducible rfl)
            try simp only [Act.put, List.setIfInBounds_toArray, List.set_cons_zero, List.set_cons_succ]
            refine wpAnyH_take (i := 13) (oi := { dst := some 76, op := Op.move (Operand.tmp 11), type := 22, pos := "law.go:88", after := #[{ on := 12, ground := Ground.guard }], guard := some (12, false) }) (v := ?v13) rfl (by kernel_rfl) (by kernel_rfl) (by kernel_rfl) (fun _ _ _ h => h) (Or.inl ⟨by rfl, ?hy13⟩) (by assumption) ?_
            case hy13 => (intro w hSw; (try dsimp only at hSw); go_simp; try with_reducible rfl)
            try simp only [Act.put, List.setIfInBounds_toArray, List.set_cons_zero, List.set_cons_succ]
            refine wpAnyH_take (i := 14) (oi := { dst := some 77, op := Op.move (Operand.tmp 12), type := 3, pos := "law.go:88", after := #[{ on := 12, ground := Ground.guard }], guard := some (12, false) }) (v := ?v14) rfl (by kernel_rfl) (by kernel_rfl) (by kernel_rfl) (fun _ _ _ h => h) (Or.inl ⟨by rfl, ?hy14⟩) (by assumption) ?_
            case hy14 => (intro w hSw; (try dsimp only at hSw); go_simp; try with_reducible rfl)
            try simp only [Act.put, List.setIfInBounds_toArray, List.set_cons_zero, List.set_cons_succ]
            refine wpAnyH_take (i := 15) (oi := { dst := some 78, op := Op.slice 22 (Operand.tmp 76) none (some (Operand.tmp 77)) none, type := 22, pos := "law.go:88", after := #[{ on := 13, ground := Ground.data }, { on := 14, ground := Ground.data }, { on := 12, ground := Ground.guard }], guard := some (12, false) }) (v := ?v15) rfl (by kernel_rfl) (by kernel_rfl) (by kernel_rfl) (fun _ _ _ h => h) (Or.inl ⟨by rfl, ?hy15⟩) (by assumption) ?_
            case hy15 => (intro w hSw; (try dsimp only at hSw); go_simp; try with_reducible rfl)
            try simp only [Act.put, List.setIfInBounds_toArray, List.set_cons_zero, List.set_cons_succ]
            refine wpAnyH_take (i := 16) (oi := { dst := some 79, op := Op.move (Operand.tmp 11), type := 22, pos := "law.go:88", after := #[{ on := 12, ground := Ground.guard }], guard := some (12, false) }) (v := ?v16) rfl (by kernel_rfl) (by kernel_rfl) (by kernel_rfl) (fun _ _ _ h => h) (Or.inl ⟨by rfl, ?hy16⟩) (by assumption) ?_
            case hy16 => (intro w hSw; (try dsimp only at hSw); go_simp; try with_reducible rfl)
            try simp only [Act.put, List.setIfInBounds_toArray, List.set_cons_zero, List.set_cons_succ]
            refine wpAnyH_take (i := 17) (oi := { dst := some 80, op := Op.move (Operand.tmp 12), type := 3, pos := "law.go:88", after := #[{ on := 12, ground := Ground.guard }], guard := some (12, false) }) (v := ?v17) rfl (by kernel_rfl) (by kernel_rfl) (by kernel_rfl) (fun _ _ _ h => h) (Or.inl ⟨by rfl, ?hy17⟩) (by assumption) ?_
            case hy17 => (intro w hSw; (try dsimp only at hSw); go_simp; try with_reducible rfl)
            try simp only [Act.put, List.setIfInBounds_toArray, List.set_cons_zero, List.set_cons_succ]
            refine wpAnyH_take (i := 18) (oi := { dst := some 81, op := Op.indexAddr 22 (Operand.tmp 79) (Operand.tmp 80), type := 0, pos := "law.go:88", after := #[{ on := 16, ground := Ground.data }, { on := 17, ground := Ground.data }, { on := 12, ground := Ground.guard }], guard := some (12, false) }) (v := ?v18) rfl (by kernel_rfl) (by kernel_rfl) (by kernel_rfl) (fun _ _ _ h => h) (Or.inl ⟨by rfl, ?hy18⟩) (by assumption) ?_
            case hy18 => (intro w hSw; (try dsimp only at hSw); go_simp; try with_reducible rfl)
            try simp only [Act.put, List.setIfInBounds_toArray, List.set_cons_zero, List.set_cons_succ]
            refine wpAnyH_take (i := 19) (oi := { dst := some 82, op := Op.load 9 (Operand.tmp 81), type := 9, pos := "law.go:88", after := #[{ on := 18, ground := Ground.data }, { on := 12, ground := Ground.guard }], guard := some (12, false) }) (v := ?v19) rfl (by kernel_rfl) (by kernel_rfl) (by kernel_rfl) (fun _ _ _ h => h) (Or.inl ⟨by rfl, ?hy19⟩) (by assumption) ?_
            case hy19 => (intro w hSw; (try dsimp only at hSw); go_simp; try with_reducible rfl)
            try simp only [Act.put, List.setIfInBounds_toArray, List.set_cons_zero, List.set_cons_succ]
            refine wpAnyH_ready (rs := [20]) (by kernel_rfl) (by simp) ?_
            refine AllReadyH.cons (o := { dst := some 83, op := Op.call { callee := Callee.value (Operand.func 18), args := #[Operand.tmp 78, Operand.tmp 82], argTypes := #[22, 9] }, type := 3, pos := "law.go:88", after := #[{ on := 15, ground := Ground.data }, { on := 19, ground := Ground.data }, { on := 12, ground := Ground.chain }, { on := 12, ground := Ground.guard }], guard := some (12, false) }) rfl (fun K hK => ?_) AllReadyH.nil
            rw [if_pos (by rfl)]
            go_simp
            refine (HPLC.out _ acc1).mono ?_
            rintro e w12 ⟨rfl, hq12⟩
            replace acc1 := (show Below w10.heap.size w10 w12 by obtain ⟨q, rfl⟩ := hq12; exact below_drewN acc1 q)
            clear hq12
            dsimp only
            refine hK.out _ _ (KP.out _ acc1) (fun hHeld => ?_)
            clear hK K
            try simp only [Act.put, List.setIfInBounds_toArray, List.set_cons_zero, List.set_cons_succ]
            refine wpAnyH_take (i := 21) (oi := { dst := some 84, op := Op.binOp BinOp.geq 3 (Operand.tmp 83) (Operand.const (Value.int IntKind.i64 0)) 3, type := 4, pos := "law.go:88", after := #[{ on := 20, ground := Ground.data }, { on := 12, ground := Ground.guard }], guard := some (12, false) }) (v := ?v20) rfl (by kernel_rfl) (by kernel_rfl) (by kernel_rfl) (fun _ _ _ h => h) (Or.inl ⟨by rfl, ?hy20⟩) (by assumption) ?_
            case hy20 => (intro w hSw; (try dsimp only at hSw); go_simp; try with_reducible rfl)
            try simp only [Act.put, List.setIfInBounds_toArray, List.set_cons_zero, List.set_cons_succ]
            refine wpAnyH_take (i := 22) (oi := { dst := some 85, op := Op.pick (Operand.tmp 75) (Operand.const (Value.bool true)) (Operand.tmp 84), type := 4, pos := "law.go:88", after := #[{ on := 12, ground := Ground.data }, { on := 21, ground := Ground.data }], guard := none }) (v := ?v21) rfl (by kernel_rfl) (by kernel_rfl) (by kernel_rfl) (fun _ _ _ h => h) (Or.inl ⟨by rfl, ?hy21⟩) (by assumption) ?_
            case hy21 => (intro w hSw; (try dsimp only at hSw); go_simp; try with_reducible rfl)
            try simp only [Act.put, List.setIfInBounds_toArray, List.set_cons_zero, List.set_cons_succ]
            refine wpAnyH_done (by kernel_rfl) ?_ _
            clear hwr hwr2 hsub
            go_wp2
            go_roundg (N - (k + 1))
            case measure => omega
            case rel => exact ⟨k + 1, by omega, by omega, by omega, by go_num, acc1⟩
          · have hkN : N = k := by omega
            subst hkN
            have acc := AC7.out.trans (HB.out.mono AC7.out.size)
            have h5z : (m : Int) ≤ 5 := by omega
            go_wp2_with (go_at_call 14; refine (known_any _ (HG.out.below acc)).mono ?_; rintro e w9 ⟨rfl, hb9⟩; replace acc := acc.trans (hb9.mono acc.size); clear hb9)
            go_ret
            exact ⟨rfl, ACC.out.trans (acc.mono ACC.out.size)⟩
end Go.Proofs.YtcleonpckgfdhaaDoor
