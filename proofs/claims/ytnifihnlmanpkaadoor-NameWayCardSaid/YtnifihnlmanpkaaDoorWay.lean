/-
  NameWay: the walk of the law.
-/
import Derived.Test.YtnifihnlmanpkaaDoorWayText2
import Derived.Test.YtnifihnlmanpkaaDoorTops
set_option linter.unusedVariables false
set_option linter.unusedSimpArgs false
namespace Go.Proofs.YtnifihnlmanpkaaDoor
open Go Go.RowKit Go.Lib Go.Shelf

theorem nameWay_not (w : World) (a b : ByteArray) (ha : a.size ≤ 140737488351232) (hb : b.size ≤ 140737488351232) (hl : 200 < a.size + b.size ∨ isR a.data.toList = false ∨ isR b.data.toList = false ∨ a.data.toList = b.data.toList) :
    Calls Tryd.prog 5 #[.string a, .string b] w fun e w' => e = .returned (.bool true) ∧ Below w.heap.size w w' := by
  have acc : Below w.heap.size w w := Below.refl _ _
  by_cases h : 200 < a.size + b.size
  · have h1 : (200 : Int) < (a.size : Int) + (b.size : Int) := by omega
    clear hl h
    go_enter Tryd.func5, Tryd.ntmps5
    go_wp2
    go_ret
    exact ⟨rfl, acc⟩
  · have h1 : ¬ (200 : Int) < (a.size : Int) + (b.size : Int) := by omega
    have sa : a.size < 90000 := by omega
    have sb : b.size < 90000 := by omega
    cases hx : isR a.data.toList with
    | false =>
      clear hl h
      go_enter Tryd.func5, Tryd.ntmps5
      go_wp2_with (go_at_call 12; refine (refis_any _ _ (by assumption)).mono ?_; rintro e w2 ⟨rfl, hb⟩; replace acc := acc.trans (hb.mono acc.size); clear hb)
      go_ret
      exact ⟨rfl, acc⟩
    | true =>
      cases hy : isR b.data.toList with
      | false =>
        clear hl h
        go_enter Tryd.func5, Tryd.ntmps5
        go_wp2_with (go_at_call 12; refine (refis_any _ _ (by assumption)).mono ?_; rintro e w2 ⟨rfl, hb⟩; replace acc := acc.trans (hb.mono acc.size); clear hb)
        go_ret
        exact ⟨rfl, acc⟩
      | true =>
        have he : a.data.toList = b.data.toList := by
          rcases hl with hl | hl | hl | hl
          · exact absurd hl h
          · rw [hl] at hx; cases hx
          · rw [hl] at hy; cases hy
          · exact hl
        have hq := eq_text a b
        rw [decide_eq_true he] at hq
        clear hl h he
        go_enter Tryd.func5, Tryd.ntmps5
        go_wp2_with (go_at_call 12; refine (refis_any _ _ (by assumption)).mono ?_; rintro e w2 ⟨rfl, hb⟩; replace acc := acc.trans (hb.mono acc.size); clear hb)
        go_ret
        exact ⟨rfl, acc⟩

/-- What the walk wants of two texts that follow one another on the way, as bytes. -/
theorem step_cases {x p u v : ByteArray} (hx : x.data.toList ≠ []) (hp : p.data.toList ≠ []) (h : u.data.toList = p.data.toList ∨ v.data.toList = x.data.toList ∨ (u.data.toList = [] ∧ v.data.toList = [])) :
    ((u.toList == p.toList) = true ∧ u.toList ≠ []) ∨ ((u.toList == p.toList) = false ∧ (v.toList == x.toList) = true ∧ u.toList ≠ []) ∨ ((u.toList == p.toList) = false ∧ (v.toList == x.toList) = true ∧ u.toList = [] ∧ v.toList ≠ []) ∨
    ((u.toList == p.toList) = false ∧ (v.toList == x.toList) = false ∧ u.toList = [] ∧ v.toList = []) := by
  simp only [toList_data]
  by_cases h1 : u.data.toList = p.data.toList
  · exact .inl ⟨by simpa using h1, by rw [h1]; exact hp⟩
  · by_cases h2 : v.data.toList = x.data.toList
    · by_cases h3 : u.data.toList = []
      · exact .inr (.inr (.inl ⟨by simpa using h1, by simpa using h2, h3, by rw [h2]; exact hx⟩))
      · exact .inr (.inl ⟨by simpa using h1, by simpa using h2, h3⟩)
    · rcases h with h | h | ⟨h, h'⟩
      · exact absurd h h1
      · exact absurd h h2
      · exact .inr (.inr (.inr ⟨by simpa using h1, by simpa using h2, h, h'⟩))

set_option maxHeartbeats 8000000 in
set_option maxRecDepth 1000000 in
theorem nameWay_is (w : World) (hg : Glob w) (a b : ByteArray) (hl : ¬ 200 < a.size + b.size) (hx : isR a.data.toList = true) (hy : isR b.data.toList = true) (hne : a.data.toList ≠ b.data.toList) :
    Calls Tryd.prog 5 #[.string a, .string b] w fun e w' => e = .returned (.bool true) ∧ Below w.heap.size w w' := by
  have h1 : ¬ (200 : Int) < (a.size : Int) + (b.size : Int) := by omega
  have sa : a.size < 90000 := by omega
  have sb : b.size < 90000 := by omega
  have hP := pair_of (isR_of hx) (isR_of hy)
  have hway := hP.way hne
  rw [← betOf_eq (isR_of hx) (isR_of hy)] at hway
  have hR6 := betOf_six a.data.toList b.data.toList
  have hq := eq_text a b
  rw [decide_eq_false hne] at hq
  have hIS := fun (t : Nat) ht => way_isR hP (t := t) ht
  have hAP := fun (k i : Nat) hk hi => way_apart hP (k := k) (i := i) hk hi
  have hST := fun (i : Nat) h1 hi => way_step hP (i := i) h1 hi
  rw [← hway] at hIS hAP hST
  clear hway hP
  generalize hRR : betOf a.data.toList b.data.toList = R at *
  have HRR := Lib.hid hRR
  obtain ⟨P, hPP⟩ : ∃ P, P = [a.data.toList] ++ R ++ [b.data.toList] := ⟨_, rfl⟩
  rw [← hPP] at hIS hAP hST
  have hPl : P.length = 1 + R.length + 1 := by rw [hPP]; simp; omega
  have HIS := Lib.hid hIS
  have HAP := Lib.hid hAP
  have HST := Lib.hid hST
  have HPP := Lib.hid hPP
  have HG := Lib.hid hg
  clear hg hl hRR hIS hAP hST hPP hne
  have acc : Below w.heap.size w w := Below.refl _ _
  have tok : True := trivial
  go_enter Tryd.func5, Tryd.ntmps5
  go_wp2_with (first
    | (go_at_call 12; refine (refis_any _ _ (by assumption)).mono ?_; rintro e w4 ⟨rfl, hb⟩; replace acc := acc.trans (hb.mono acc.size); clear hb)
    | (go_at_call 13; refine (between_any _ a b (HG.out.below (acc.alloc acc.size _)) sa sb).mono ?_; rintro e w5 ⟨ad1, c1, rfl, ho1, hb5⟩; rw [HRR.out] at ho1 ⊢; have hlit := own_below (wpList_lit_text (w := w4) a.data.toList) hb5; have hs5 : w4.heap.size ≤ w5.heap.size := Nat.le_trans (by simp) hb5.size)
    | (at_builtin; have _t := tok; refine wpList_append_texts _ rfl (.tmp 32) (.tmp 35) rfl w4.heap.size (some ⟨w4.heap.size, 0, none⟩) 1 1 [a.data.toList] rfl hlit ad1 R.length c1 R rfl (At.owns ho1) (by omega) (by omega) hs5 ?_; intro ad6 cap6 w6 hown6 hb6; have hs6 : w4.heap.size ≤ w6.heap.size := Nat.le_trans hs5 hb6.size; clear tok)
    | (at_builtin; refine wpList_append_text _ rfl (.tmp 36) (.tmp 38) rfl w4.heap.size ad6 (1 + R.length) cap6 ([a.data.toList] ++ R) rfl (hown6.alloc _) w6.heap.size b.data.toList rfl (heap_alloc_new _ _) (by omega) (Nat.le_trans hs6 (by simp)) ?_; intro g7 cap7 w7 hown7 hb7))
  have hall : Below w.heap.size w w7 := by
    have e1 : Below w4.heap.size w4 w5 := ((Below.refl _ w4).alloc (Nat.le_refl _) _).trans (hb5.mono (by simp))
    have e2 := e1.trans hb6
    have e3 := (e2.alloc hs6 _).trans hb7
    exact acc.trans (e3.mono acc.size)
  have hA := At.owns hown7
  rw [← HPP.out] at hA
  have HA := Lib.hid hA
  have HALL := Lib.hid hall
  obtain ⟨N, hN⟩ : ∃ N, N = 1 + R.length + 1 := ⟨_, rfl⟩
  have hNz : 1 + (R.length : Int) + 1 = (N : Int) := by omega
  have hN8 : N ≤ 8 := by omega
  rw [← hN] at HA hPl ⊢
  have hgrow : w.heap.size ≤ w7.heap.size := hall.size
  clear hown7 hb7 hown6 hb6 hlit ho1 hb5 hs5 hs6 hA hall acc hN
  go_loopg [6] N (fun gg s6 wr => ∃ i : Nat, i ≤ N ∧ N - i ≤ gg ∧ s6 = .int .i64 i ∧ Aside (Below w7.heap.size w7 wr))
  case atStart => exact ⟨0, by omega, by omega, rfl, Below.refl _ _⟩
  case round =>
    obtain ⟨i, hi, hgg, rfl, HB⟩ := hrel
    by_cases hlt : i < N
    · have hltz : (i : Int) < (N : Int) := by omega
      obtain ⟨bk, off, hbk, hbl, hc⟩ := HA.out.cell (by omega)
      obtain ⟨x, hxx⟩ : ∃ x : ByteArray, x = ⟨P[i]!.toArray⟩ := ⟨_, rfl⟩
      have hxd : x.data.toList = P[i]! := by rw [hxx]
      have kx := hc i hlt
      rw [← hxx] at kx
      have hix := HIS.out i (by omega)
      rw [← hxd] at hix
      have hxs := isR_short hix
      have sx : x.size < 90000 := by have e : x.data.toList.length = x.size := rfl; omega
      have HX := Lib.hid hxd
      have HC := Lib.hid hc
      simp only [Option.some.injEq, Addr.mk.injEq, and_true] at hbk
      obtain ⟨rfl, rfl⟩ := hbk
      rw [Nat.zero_add] at kx
      have KX := Lib.hid kx
      have acc1 := HB.out
      have kx := (acc1.cell (p := ⟨_, i, none⟩) hbl).trans KX.out
      have acc := HALL.out.trans (acc1.mono hgrow)
      clear hc hxx hxd
      go_wp2_with (go_at_call 16; refine (is_any _ _ (HG.out.below acc) (by assumption)).mono ?_; rintro e w8 ⟨rfl, hb⟩; rw [hix]; replace acc := acc.trans (hb.mono acc.size); replace acc1 := acc1.trans (hb.mono acc1.size); clear hb)
      have HB1 := Lib.hid acc1
      clear acc acc1 kx HB
      go_loopg [7] i (fun gg s7 wr2 => ∃ k : Nat, k ≤ i ∧ i - k ≤ gg ∧ s7 = .int .i64 k ∧ Aside (Below w7.heap.size w7 wr2))
      case atStart => exact ⟨0, by omega, by omega, rfl, HB1.out⟩
      case round =>
        obtain ⟨k, hk, hgg2, rfl, HB2⟩ := hrel
        have kx := (HB2.out.cell (p := ⟨_, i, none⟩) hbl).trans KX.out
        by_cases hkl : k < i
        · have hklz : (k : Int) < (i : Int) := by omega
          have hklN : (k : Int) < (N : Int) := by omega
          obtain ⟨y, hyy⟩ : ∃ y : ByteArray, y = ⟨P[k]!.toArray⟩ := ⟨_, rfl⟩
          have hyd : y.data.toList = P[k]! := by rw [hyy]
          have ky := HC.out k (by omega)
          rw [← hyy, Nat.zero_add] at ky
          have ky := (HB2.out.cell (p := ⟨_, k, none⟩) hbl).trans ky
          have hqy := eq_text y x
          rw [decide_eq_false (by rw [hyd, HX.out]; exact HAP.out k i hkl (by omega))] at hqy
          clear hyy hyd
          go_wp2
          go_quiet (fail)
          go_wp2
          go_roundg (i - (k + 1))
          case measure => omega
          case rel => exact ⟨k + 1, by omega, by omega, by go_num, below_drewN HB2.out _⟩
        · have hki : k = i := by omega
          subst hki
          by_cases hk0 : k = 0
          · subst hk0
            go_wp2
            go_roundg (N - 1)
            case measure => omega
            case rel => exact ⟨1, by omega, by omega, by go_num, HB2.out⟩
          · have hkz : (k : Int) ≠ 0 := by omega
            have hsub : (k : Int) - 1 = ((k - 1 : Nat) : Int) := by omega
            have hk1 : ((k - 1 : Nat) : Int) < (N : Int) := by omega
            obtain ⟨p, hpp⟩ : ∃ p : ByteArray, p = ⟨P[k - 1]!.toArray⟩ := ⟨_, rfl⟩
            have hpd : p.data.toList = P[k - 1]! := by rw [hpp]
            have kp := HC.out (k - 1) (by omega)
            rw [← hpp, Nat.zero_add] at kp
            have hip := HIS.out (k - 1) (by omega)
            rw [← hpd] at hip
            have hps := isR_short hip
            have sp : p.size < 90000 := by have e : p.data.toList.length = p.size := rfl; omega
            have hstep := HST.out k (by omega) (by omega)
            rw [← HX.out, ← hpd] at hstep
            obtain ⟨u, hu⟩ : ∃ u : ByteArray, (⟨(upOf x.data.toList).toArray⟩ : ByteArray) = u := ⟨_, rfl⟩
            obtain ⟨v, hv⟩ : ∃ v : ByteArray, (⟨(upOf p.data.toList).toArray⟩ : ByteArray) = v := ⟨_, rfl⟩
            have hud : u.data.toList = upOf x.data.toList := by rw [← hu]
            have hvd : v.data.toList = upOf p.data.toList := by rw [← hv]
            rw [← hud, ← hvd] at hstep
            have hxn : x.data.toList ≠ [] := fun e => by rw [e] at hix; exact absurd hix (by decide)
            have hpn : p.data.toList ≠ [] := fun e => by rw [e] at hip; exact absurd hip (by decide)
            have hcases := step_cases hxn hpn hstep
            have keep : ∀ W, Below w7.heap.size w7 W → W.cell? ⟨g7, k, none⟩ = some (.string x) ∧ W.cell? ⟨g7, k - 1, none⟩ = some (.string p) := fun W hW => ⟨(hW.cell (p := ⟨_, k, none⟩) hbl).trans KX.out, (hW.cell (p := ⟨_, k - 1, none⟩) hbl).trans kp⟩
            have KP := Lib.hid keep
            have HU := Lib.hid hu
            have HV := Lib.hid hv
            have acc1 := HB2.out
            have kp := (keep _ acc1).2
            have acc := HALL.out.trans (acc1.mono hgrow)
            clear hpp hpd hud hvd hstep hxn hpn keep hu hv hip hix
            rcases hcases with ⟨e1, e2⟩ | ⟨e1, e2, e3⟩ | ⟨e1, e2, e3, e4⟩ | ⟨e1, e2, e3, e4⟩
            · have e2b : u.toList.isEmpty = false := by simpa using e2
              have hwr : IntKind.i64.wrap ((k : Int) - 1) = ((k - 1 : Nat) : Int) := by
                rw [IntKind.wrap_i64]; omega
              have hwr2 : IntKind.i64.wrap ((k - 1 : Nat) : Int) = ((k - 1 : Nat) : Int) := by
                rw [IntKind.wrap_i64]; omega
              have hzk : (k : Int) < (N : Int) := by omega
              have hz0 : (0 : Int) ≤ ((k - 1 : Nat) : Int) := by omega
              have hz1 : (0 : Int) ≤ (k : Int) := by omega
              go_wp2
              have acc1 := acc1.drew
              have acc := acc.drew
              refine wp_region_held_drew (S := (fun W => W.cell? ⟨g7, k, none⟩ = some (.string x) ∧ W.cell? ⟨g7, k - 1, none⟩ = some (.string p))) (by kernel_rfl) (KP.out _ acc1) (fun hHeld => ?_)
              refine wpAnyH_take (i := 0) (oi := { dst := some 68, op := Op.move (Operand.tmp 5), type := 23, pos := "law.go:75", after := #[], guard := none }) (v := ?v1) rfl (by kernel_rfl) (by kernel_rfl) (by kernel_rfl) (fun _ _ _ h => h) (Or.inl ⟨by rfl, ?hy1⟩) (by assumption) ?_
              case hy1 => (intro w hSw; (try dsimp only at hSw); go_simp; try with_reducible rfl)
              try simp only [Act.put, List.setIfInBounds_toArray, List.set_cons_zero, List.set_cons_succ]
              refine wpAnyH_take (i := 1) (oi := { dst := some 69, op := Op.move (Operand.tmp 6), type := 3, pos := "law.go:75", after := #[], guard := none }) (v := ?v2) rfl (by kernel_rfl) (by kernel_rfl) (by kernel_rfl) (fun _ _ _ h => h) (Or.inl ⟨by rfl, ?hy2⟩) (by assumption) ?_
              case hy2 => (intro w hSw; (try dsimp only at hSw); go_simp; try with_reducible rfl)
              try simp only [Act.put, List.setIfInBounds_toArray, List.set_cons_zero, List.set_cons_succ]
              refine wpAnyH_take (i := 2) (oi := { dst := some 70, op := Op.indexAddr 23 (Operand.tmp 68) (Operand.tmp 69), type := 0, pos := "law.go:75", after := #[{ on := 0, ground := Ground.data }, { on := 1, ground := Ground.data }], guard := none }) (v := ?v3) rfl (by kernel_rfl) (by kernel_rfl) (by kernel_rfl) (fun _ _ _ h => h) (Or.inl ⟨by rfl, ?hy3⟩) (by assumption) ?_
              case hy3 => (intro w hSw; (try dsimp only at hSw); go_simp; try with_reducible rfl)
              try simp only [Act.put, List.setIfInBounds_toArray, List.set_cons_zero, List.set_cons_succ]
              refine wpAnyH_take (i := 3) (oi := { dst := some 71, op := Op.load 9 (Operand.tmp 70), type := 9, pos := "law.go:75", after := #[{ on := 2, ground := Ground.data }], guard := none }) (v := ?v4) rfl (by kernel_rfl) (by kernel_rfl) (by kernel_rfl) (fun _ _ _ h => h) (Or.inl ⟨by rfl, ?hy4⟩) (by assumption) ?_
              case hy4 => (intro w hSw; (try dsimp only at hSw); go_simp; try with_reducible rfl)
              try simp only [Act.put, List.setIfInBounds_toArray, List.set_cons_zero, List.set_cons_succ]
              refine wpAnyH_take (i := 5) (oi := { dst := some 73, op := Op.move (Operand.tmp 5), type := 23, pos := "law.go:75", after := #[], guard := none }) (v := ?v5) rfl (by kernel_rfl) (by kernel_rfl) (by kernel_rfl) (fun _ _ _ h => h) (Or.inl ⟨by rfl, ?hy5⟩) (by assumption) ?_
              case hy5 => (intro w hSw; (try dsimp only at hSw); go_simp; try with_reducible rfl)
              try simp only [Act.put, List.setIfInBounds_toArray, List.set_cons_zero, List.set_cons_succ]
              refine wpAnyH_take (i := 6) (oi := { dst := some 74, op := Op.move (Operand.tmp 6), type := 3, pos := "law.go:75", after := #[], guard := none }) (v := ?v6) rfl (by kernel_rfl) (by kernel_rfl) (by kernel_rfl) (fun _ _ _ h => h) (Or.inl ⟨by rfl, ?hy6⟩) (by assumption) ?_
              case hy6 => (intro w hSw; (try dsimp only at hSw); go_simp; try with_reducible rfl)
              try simp only [Act.put, List.setIfInBounds_toArray, List.set_cons_zero, List.set_cons_succ]
              refine wpAnyH_take (i := 7) (oi := { dst := some 75, op := Op.binOp BinOp.sub 3 (Operand.tmp 74) (Operand.const (Value.int IntKind.i64 1)) 3, type := 3, pos := "law.go:75", after := #[{ on := 6, ground := Ground.data }], guard := none }) (v := ?v7) rfl (by kernel_rfl) (by kernel_rfl) (by kernel_rfl) (fun _ _ _ h => h) (Or.inl ⟨by rfl, ?hy7⟩) (by assumption) ?_
              case hy7 => (intro w hSw; (try dsimp only at hSw); go_simp; try with_reducible rfl)
              try simp only [Act.put, List.setIfInBounds_toArray, List.set_cons_zero, List.set_cons_succ]
              refine wpAnyH_take (i := 8) (oi := { dst := some 76, op := Op.indexAddr 23 (Operand.tmp 73) (Operand.tmp 75), type := 0, pos := "law.go:75", after := #[{ on := 5, ground := Ground.data }, { on := 7, ground := Ground.data }], guard := none }) (v := ?v8) rfl (by kernel_rfl) (by kernel_rfl) (by kernel_rfl) (fun _ _ _ h => h) (Or.inl ⟨by rfl, ?hy8⟩) (by assumption) ?_
              case hy8 => (intro w hSw; (try dsimp only at hSw); go_simp; try with_reducible rfl)
              try simp only [Act.put, List.setIfInBounds_toArray, List.set_cons_zero, List.set_cons_succ]
              refine wpAnyH_take (i := 9) (oi := { dst := some 77, op := Op.load 9 (Operand.tmp 76), type := 9, pos := "law.go:75", after := #[{ on := 8, ground := Ground.data }], guard := none }) (v := ?v9) rfl (by kernel_rfl) (by kernel_rfl) (by kernel_rfl) (fun _ _ _ h => h) (Or.inl ⟨by rfl, ?hy9⟩) (by assumption) ?_
              case hy9 => (intro w hSw; (try dsimp only at hSw); go_simp; try with_reducible rfl)
              try simp only [Act.put, List.setIfInBounds_toArray, List.set_cons_zero, List.set_cons_succ]
              refine wpAnyH_ready (rs := [4]) (by kernel_rfl) (by simp) ?_
              refine AllReadyH.cons (o := { dst := some 72, op := Op.call { callee := Callee.value (Operand.func 17), args := #[Operand.tmp 71], argTypes := #[9] }, type := 9, pos := "law.go:75", after := #[{ on := 3, ground := Ground.data }], guard := none }) rfl (fun K hK => ?_) AllReadyH.nil
              go_wp2_with (go_at_call 17; refine (up_any _ _ (HG.out.below acc) (by assumption)).mono ?_; rintro e w9 ⟨rfl, hb⟩; (first | rw [HU.out] | rw [HV.out]); replace acc := acc.trans (hb.mono acc.size); replace acc1 := acc1.trans (hb.mono acc1.size); clear hb)
              refine hK.out _ _ (KP.out _ acc1) (fun hHeld => ?_)
              clear hK K
              try simp only [Act.put, List.setIfInBounds_toArray, List.set_cons_zero, List.set_cons_succ]
              refine wpAnyH_take (i := 10) (oi := { dst := some 78, op := Op.binOp BinOp.eql 9 (Operand.tmp 72) (Operand.tmp 77) 9, type := 4, pos := "law.go:75", after := #[{ on := 4, ground := Ground.data }, { on := 9, ground := Ground.data }], guard := none }) (v := ?v10) rfl (by kernel_rfl) (by kernel_rfl) (by kernel_rfl) (fun _ _ _ h => h) (Or.inl ⟨by rfl, ?hy10⟩) (by assumption) ?_
              case hy10 => (intro w hSw; (try dsimp only at hSw); go_simp; try with_reducible rfl)
              try simp only [Act.put, List.setIfInBounds_toArray, List.set_cons_zero, List.set_cons_succ]
              refine wpAnyH_take (i := 11) (oi := { dst := some 79, op := Op.move (Operand.tmp 78), type := 4, pos := "law.go:75", after := #[{ on := 10, ground := Ground.data }, { on := 4, ground := Ground.chain }], guard := none }) (v := ?v11) rfl (by kernel_rfl) (by kernel_rfl) (by kernel_rfl) (fun _ _ _ h => h) (Or.inl ⟨by rfl, ?hy11⟩) (by assumption) ?_
              case hy11 => (intro w hSw; (try dsimp only at hSw); go_simp; try with_reducible rfl)
              try simp only [Act.put, List.setIfInBounds_toArray, List.set_cons_zero, List.set_cons_succ]
              refine wpAnyH_take (i := 12) (oi := { dst := some 80, op := Op.move (Operand.tmp 5), type := 23, pos := "law.go:75", after := #[{ on := 11, ground := Ground.guard }], guard := some (11, false) }) (v := undef) rfl (by kernel_rfl) (by kernel_rfl) (by kernel_rfl) (fun _ _ _ h => h) (Or.inr ⟨by rfl, rfl⟩) (by assumption) ?_
              try simp only [Act.put, List.setIfInBounds_toArray, List.set_cons_zero, List.set_cons_succ]
              refine wpAnyH_take (i := 13) (oi := { dst := some 81, op := Op.move (Operand.tmp 6), type := 3, pos := "law.go:75", after := #[{ on := 11, ground := Ground.guard }], guard := some (11, false) }) (v := undef) rfl (by kernel_rfl) (by kernel_rfl) (by kernel_rfl) (fun _ _ _ h => h) (Or.inr ⟨by rfl, rfl⟩) (by assumption) ?_
              try simp only [Act.put, List.setIfInBounds_toArray, List.set_cons_zero, List.set_cons_succ]
              refine wpAnyH_take (i := 14) (oi := { dst := some 82, op := Op.binOp BinOp.sub 3 (Operand.tmp 81) (Operand.const (Value.int IntKind.i64 1)) 3, type := 3, pos := "law.go:75", after := #[{ on := 13, ground := Ground.data }, { on := 11, ground := Ground.guard }], guard := some (11, false) }) (v := undef) rfl (by kernel_rfl) (by kernel_rfl) (by kernel_rfl) (fun _ _ _ h => h) (Or.inr ⟨by rfl, rfl⟩) (by assumption) ?_
              try simp only [Act.put, List.setIfInBounds_toArray, List.set_cons_zero, List.set_cons_succ]
              refine wpAnyH_take (i := 15) (oi := { dst := some 83, op := Op.indexAddr 23 (Operand.tmp 80) (Operand.tmp 82), type := 0, pos := "law.go:75", after := #[{ on := 12, ground := Ground.data }, { on := 14, ground := Ground.data }, { on := 11, ground := Ground.guard }], guard := some (11, false) }) (v := undef) rfl (by kernel_rfl) (by kernel_rfl) (by kernel_rfl) (fun _ _ _ h => h) (Or.inr ⟨by rfl, rfl⟩) (by assumption) ?_
              try simp only [Act.put, List.setIfInBounds_toArray, List.set_cons_zero, List.set_cons_succ]
              refine wpAnyH_take (i := 16) (oi := { dst := some 84, op := Op.load 9 (Operand.tmp 83), type := 9, pos := "law.go:75", after := #[{ on := 15, ground := Ground.data }, { on := 11, ground := Ground.guard }], guard := some (11, false) }) (v := undef) rfl (by kernel_rfl) (by kernel_rfl) (by kernel_rfl) (fun _ _ _ h => h) (Or.inr ⟨by rfl, rfl⟩) (by assumption) ?_
              try simp only [Act.put, List.setIfInBounds_toArray, List.set_cons_zero, List.set_cons_succ]
              refine wpAnyH_take (i := 17) (oi := { dst := some 85, op := Op.call { callee := Callee.value (Operand.func 17), args := #[Operand.tmp 84], argTypes := #[9] }, type := 9, pos := "law.go:75", after := #[{ on := 16, ground := Ground.data }, { on := 11, ground := Ground.chain }, { on := 11, ground := Ground.guard }], guard := some (11, false) }) (v := undef) rfl (by kernel_rfl) (by kernel_rfl) (by kernel_rfl) (fun _ _ _ h => h) (Or.inr ⟨by rfl, rfl⟩) (by assumption) ?_
              try simp only [Act.put, List.setIfInBounds_toArray, List.set_cons_zero, List.set_cons_succ]
              refine wpAnyH_take (i := 18) (oi := { dst := some 86, op := Op.move (Operand.tmp 5), type := 23, pos := "law.go:75", after := #[{ on := 11, ground := Ground.guard }], guard := some (11, false) }) (v := undef) rfl (by kernel_rfl) (by kernel_rfl) (by kernel_rfl) (fun _ _ _ h => h) (Or.inr ⟨by rfl, rfl⟩) (by assumption) ?_
              try simp only [Act.put, List.setIfInBounds_toArray, List.set_cons_zero, List.set_cons_succ]
              refine wpAnyH_take (i := 19) (oi := { dst := some 87, op := Op.move (Operand.tmp 6), type := 3, pos := "law.go:75", after := #[{ on := 11, ground := Ground.guard }], guard := some (11, false) }) (v := undef) rfl (by kernel_rfl) (by kernel_rfl) (by kernel_rfl) (fun _ _ _ h => h) (Or.inr ⟨by rfl, rfl⟩) (by assumption) ?_
              try simp only [Act.put, List.setIfInBounds_toArray, List.set_cons_zero, List.set_cons_succ]
              refine wpAnyH_take (i := 20) (oi := { dst := some 88, op := Op.indexAddr 23 (Operand.tmp 86) (Operand.tmp 87), type := 0, pos := "law.go:75", after := #[{ on := 18, ground := Ground.data }, { on := 19, ground := Ground.data }, { on := 11, ground := Ground.guard }], guard := some (11, false) }) (v := undef) rfl (by kernel_rfl) (by kernel_rfl) (by kernel_rfl) (fun _ _ _ h => h) (Or.inr ⟨by rfl, rfl⟩) (by assumption) ?_
              try simp only [Act.put, List.setIfInBounds_toArray, List.set_cons_zero, List.set_cons_succ]
              refine wpAnyH_take (i := 21) (oi := { dst := some 89, op := Op.load 9 (Operand.tmp 88), type := 9, pos := "law.go:75", after := #[{ on := 20, ground := Ground.data }, { on := 11, ground := Ground.guard }], guard := some (11, false) }) (v := undef) rfl (by kernel_rfl) (by kernel_rfl) (by kernel_rfl) (fun _ _ _ h => h) (Or.inr ⟨by rfl, rfl⟩) (by assumption) ?_
              try simp only [Act.put, List.setIfInBounds_toArray, List.set_cons_zero, List.set_cons_succ]
              refine wpAnyH_take (i := 22) (oi := { dst := some 90, op := Op.binOp BinOp.eql 9 (Operand.tmp 85) (Operand.tmp 89) 9, type := 4, pos := "law.go:75", after := #[{ on := 17, ground := Ground.data }, { on := 21, ground := Ground.data }, { on := 11, ground := Ground.guard }], guard := some (11, false) }) (v := undef) rfl (by kernel_rfl) (by kernel_rfl) (by kernel_rfl) (fun _ _ _ h => h) (Or.inr ⟨by rfl, rfl⟩) (by assumption) ?_
              try simp only [Act.put, List.setIfInBounds_toArray, List.set_cons_zero, List.set_cons_succ]
              refine wpAnyH_take (i := 23) (oi := { dst := some 91, op := Op.pick (Operand.tmp 79) (Operand.const (Value.bool true)) (Operand.tmp 90), type := 4, pos := "law.go:75", after := #[{ on := 11, ground := Ground.data }, { on := 22, ground := Ground.data }], guard := none }) (v := ?v12) rfl (by kernel_rfl) (by kernel_rfl) (by kernel_rfl) (fun _ _ _ h => h) (Or.inl ⟨by rfl, ?hy12⟩) (by assumption) ?_
              case hy12 => (intro w hSw; (try dsimp only at hSw); go_simp; try with_reducible rfl)
              try simp only [Act.put, List.setIfInBounds_toArray, List.set_cons_zero, List.set_cons_succ]
              refine wpAnyH_take (i := 24) (oi := { dst := some 8, op := Op.assign (Operand.tmp 91), type := 4, pos := "law.go:75", after := #[{ on := 23, ground := Ground.data }, { on := 17, ground := Ground.chain }, { on := 0, ground := Ground.phase }, { on := 1, ground := Ground.phase }, { on := 2, ground := Ground.phase }, { on := 3, ground := Ground.phase }, { on := 4, ground := Ground.phase }, { on := 5, ground := Ground.phase }, { on := 6, ground := Ground.phase }, { on := 7, ground := Ground.phase }, { on := 8, ground := Ground.phase }, { on := 9, ground := Ground.phase }, { on := 10, ground := Ground.phase }, { on := 11, ground := Ground.phase }, { on := 12, ground := Ground.phase }, { on := 13, ground := Ground.phase }, { on := 14, ground := Ground.phase }, { on := 15, ground := Ground.phase }, { on := 16, ground := Ground.phase }, { on := 17, ground := Ground.phase }, { on := 18, ground := Ground.phase }, { on := 19, ground := Ground.phase }, { on := 20, ground := Ground.phase }, { on := 21, ground := Ground.phase }, { on := 22, ground := Ground.phase }, { on := 23, ground := Ground.phase }], guard := none }) (v := ?v13) rfl (by kernel_rfl) (by kernel_rfl) (by kernel_rfl) (fun _ _ _ h => h) (Or.inl ⟨by rfl, ?hy13⟩) (by assumption) ?_
              case hy13 => (intro w hSw; (try dsimp only at hSw); go_simp; try with_reducible rfl)
              try simp only [Act.put, List.setIfInBounds_toArray, List.set_cons_zero, List.set_cons_succ]
              refine wpAnyH_done (by kernel_rfl) ?_ _
              obtain ⟨kx2, kp2⟩ := KP.out _ acc1
              try have e3 := HE3.out
              try have e4 := HE4.out
              go_wp2_with (go_at_call 17; refine (up_any _ _ (HG.out.below acc) (by assumption)).mono ?_; rintro e w9 ⟨rfl, hb⟩; (first | rw [HU.out] | rw [HV.out]); replace acc := acc.trans (hb.mono acc.size); replace acc1 := acc1.trans (hb.mono acc1.size); obtain ⟨kx2, kp2⟩ := KP.out _ acc1; clear hb)
              go_roundg (N - (k + 1))
              case measure => omega
              case rel => exact ⟨k + 1, by omega, by omega, by go_num, acc1⟩
            · have e3b : u.toList.isEmpty = false := by simpa using e3
              have hwr : IntKind.i64.wrap ((k : Int) - 1) = ((k - 1 : Nat) : Int) := by
                rw [IntKind.wrap_i64]; omega
              have hwr2 : IntKind.i64.wrap ((k - 1 : Nat) : Int) = ((k - 1 : Nat) : Int) := by
                rw [IntKind.wrap_i64]; omega
              have hzk : (k : Int) < (N : Int) := by omega
              have hz0 : (0 : Int) ≤ ((k - 1 : Nat) : Int) := by omega
              have hz1 : (0 : Int) ≤ (k : Int) := by omega
              go_wp2
              have acc1 := acc1.drew
              have acc := acc.drew
              refine wp_region_held_drew (S := (fun W => W.cell? ⟨g7, k, none⟩ = some (.string x) ∧ W.cell? ⟨g7, k - 1, none⟩ = some (.string p))) (by kernel_rfl) (KP.out _ acc1) (fun hHeld => ?_)
              refine wpAnyH_take (i := 0) (oi := { dst := some 68, op := Op.move (Operand.tmp 5), type := 23, pos := "law.go:75", after := #[], guard := none }) (v := ?v101) rfl (by kernel_rfl) (by kernel_rfl) (by kernel_rfl) (fun _ _ _ h => h) (Or.inl ⟨by rfl, ?hy101⟩) (by assumption) ?_
              case hy101 => (intro w hSw; (try dsimp only at hSw); go_simp; try with_reducible rfl)
              try simp only [Act.put, List.setIfInBounds_toArray, List.set_cons_zero, List.set_cons_succ]
              refine wpAnyH_take (i := 1) (oi := { dst := some 69, op := Op.move (Operand.tmp 6), type := 3, pos := "law.go:75", after := #[], guard := none }) (v := ?v102) rfl (by kernel_rfl) (by kernel_rfl) (by kernel_rfl) (fun _ _ _ h => h) (Or.inl ⟨by rfl, ?hy102⟩) (by assumption) ?_
              case hy102 => (intro w hSw; (try dsimp only at hSw); go_simp; try with_reducible rfl)
              try simp only [Act.put, List.setIfInBounds_toArray, List.set_cons_zero, List.set_cons_succ]
              refine wpAnyH_take (i := 2) (oi := { dst := some 70, op := Op.indexAddr 23 (Operand.tmp 68) (Operand.tmp 69), type := 0, pos := "law.go:75", after := #[{ on := 0, ground := Ground.data }, { on := 1, ground := Ground.data }], guard := none }) (v := ?v103) rfl (by kernel_rfl) (by kernel_rfl) (by kernel_rfl) (fun _ _ _ h => h) (Or.inl ⟨by rfl, ?hy103⟩) (by assumption) ?_
              case hy103 => (intro w hSw; (try dsimp only at hSw); go_simp; try with_reducible rfl)
              try simp only [Act.put, List.setIfInBounds_toArray, List.set_cons_zero, List.set_cons_succ]
              refine wpAnyH_take (i := 3) (oi := { dst := some 71, op := Op.load 9 (Operand.tmp 70), type := 9, pos := "law.go:75", after := #[{ on := 2, ground := Ground.data }], guard := none }) (v := ?v104) rfl (by kernel_rfl) (by kernel_rfl) (by kernel_rfl) (fun _ _ _ h => h) (Or.inl ⟨by rfl, ?hy104⟩) (by assumption) ?_
              case hy104 => (intro w hSw; (try dsimp only at hSw); go_simp; try with_reducible rfl)
              try simp only [Act.put, List.setIfInBounds_toArray, List.set_cons_zero, List.set_cons_succ]
              refine wpAnyH_take (i := 5) (oi := { dst := some 73, op := Op.move (Operand.tmp 5), type := 23, pos := "law.go:75", after := #[], guard := none }) (v := ?v105) rfl (by kernel_rfl) (by kernel_rfl) (by kernel_rfl) (fun _ _ _ h => h) (Or.inl ⟨by rfl, ?hy105⟩) (by assumption) ?_
              case hy105 => (intro w hSw; (try dsimp only at hSw); go_simp; try with_reducible rfl)
              try simp only [Act.put, List.setIfInBounds_toArray, List.set_cons_zero, List.set_cons_succ]
              refine wpAnyH_take (i := 6) (oi := { dst := some 74, op := Op.move (Operand.tmp 6), type := 3, pos := "law.go:75", after := #[], guard := none }) (v := ?v106) rfl (by kernel_rfl) (by kernel_rfl) (by kernel_rfl) (fun _ _ _ h => h) (Or.inl ⟨by rfl, ?hy106⟩) (by assumption) ?_
              case hy106 => (intro w hSw; (try dsimp only at hSw); go_simp; try with_reducible rfl)
              try simp only [Act.put, List.setIfInBounds_toArray, List.set_cons_zero, List.set_cons_succ]
              refine wpAnyH_take (i := 7) (oi := { dst := some 75, op := Op.binOp BinOp.sub 3 (Operand.tmp 74) (Operand.const (Value.int IntKind.i64 1)) 3, type := 3, pos := "law.go:75", after := #[{ on := 6, ground := Ground.data }], guard := none }) (v := ?v107) rfl (by kernel_rfl) (by kernel_rfl) (by kernel_rfl) (fun _ _ _ h => h) (Or.inl ⟨by rfl, ?hy107⟩) (by assumption) ?_
              case hy107 => (intro w hSw; (try dsimp only at hSw); go_simp; try with_reducible rfl)
              try simp only [Act.put, List.setIfInBounds_toArray, List.set_cons_zero, List.set_cons_succ]
              refine wpAnyH_take (i := 8) (oi := { dst := some 76, op := Op.indexAddr 23 (Operand.tmp 73) (Operand.tmp 75), type := 0, pos := "law.go:75", after := #[{ on := 5, ground := Ground.data }, { on := 7, ground := Ground.data }], guard := none }) (v := ?v108) rfl (by kernel_rfl) (by kernel_rfl) (by kernel_rfl) (fun _ _ _ h => h) (Or.inl ⟨by rfl, ?hy108⟩) (by assumption) ?_
              case hy108 => (intro w hSw; (try dsimp only at hSw); go_simp; try with_reducible rfl)
              try simp only [Act.put, List.setIfInBounds_toArray, List.set_cons_zero, List.set_cons_succ]
              refine wpAnyH_take (i := 9) (oi := { dst := some 77, op := Op.load 9 (Operand.tmp 76), type := 9, pos := "law.go:75", after := #[{ on := 8, ground := Ground.data }], guard := none }) (v := ?v109) rfl (by kernel_rfl) (by kernel_rfl) (by kernel_rfl) (fun _ _ _ h => h) (Or.inl ⟨by rfl, ?hy109⟩) (by assumption) ?_
              case hy109 => (intro w hSw; (try dsimp only at hSw); go_simp; try with_reducible rfl)
              try simp only [Act.put, List.setIfInBounds_toArray, List.set_cons_zero, List.set_cons_succ]
              refine wpAnyH_ready (rs := [4]) (by kernel_rfl) (by simp) ?_
              refine AllReadyH.cons (o := { dst := some 72, op := Op.call { callee := Callee.value (Operand.func 17), args := #[Operand.tmp 71], argTypes := #[9] }, type := 9, pos := "law.go:75", after := #[{ on := 3, ground := Ground.data }], guard := none }) rfl (fun K hK => ?_) AllReadyH.nil
              go_wp2_with (go_at_call 17; refine (up_any _ _ (HG.out.below acc) (by assumption)).mono ?_; rintro e w9 ⟨rfl, hb⟩; (first | rw [HU.out] | rw [HV.out]); replace acc := acc.trans (hb.mono acc.size); replace acc1 := acc1.trans (hb.mono acc1.size); clear hb)
              refine hK.out _ _ (KP.out _ acc1) (fun hHeld => ?_)
              clear hK K
              try simp only [Act.put, List.setIfInBounds_toArray, List.set_cons_zero, List.set_cons_succ]
              refine wpAnyH_take (i := 10) (oi := { dst := some 78, op := Op.binOp BinOp.eql 9 (Operand.tmp 72) (Operand.tmp 77) 9, type := 4, pos := "law.go:75", after := #[{ on := 4, ground := Ground.data }, { on := 9, ground := Ground.data }], guard := none }) (v := ?v110) rfl (by kernel_rfl) (by kernel_rfl) (by kernel_rfl) (fun _ _ _ h => h) (Or.inl ⟨by rfl, ?hy110⟩) (by assumption) ?_
              case hy110 => (intro w hSw; (try dsimp only at hSw); go_simp; try with_reducible rfl)
              try simp only [Act.put, List.setIfInBounds_toArray, List.set_cons_zero, List.set_cons_succ]
              refine wpAnyH_take (i := 11) (oi := { dst := some 79, op := Op.move (Operand.tmp 78), type := 4, pos := "law.go:75", after := #[{ on := 10, ground := Ground.data }, { on := 4, ground := Ground.chain }], guard := none }) (v := ?v111) rfl (by kernel_rfl) (by kernel_rfl) (by kernel_rfl) (fun _ _ _ h => h) (Or.inl ⟨by rfl, ?hy111⟩) (by assumption) ?_
              case hy111 => (intro w hSw; (try dsimp only at hSw); go_simp; try with_reducible rfl)
              try simp only [Act.put, List.setIfInBounds_toArray, List.set_cons_zero, List.set_cons_succ]
              refine wpAnyH_take (i := 12) (oi := { dst := some 80, op := Op.move (Operand.tmp 5), type := 23, pos := "law.go:75", after := #[{ on := 11, ground := Ground.guard }], guard := some (11, false) }) (v := ?v112) rfl (by kernel_rfl) (by kernel_rfl) (by kernel_rfl) (fun _ _ _ h => h) (Or.inl ⟨by rfl, ?hy112⟩) (by assumption) ?_
              case hy112 => (intro w hSw; (try dsimp only at hSw); go_simp; try with_reducible rfl)
              try simp only [Act.put, List.setIfInBounds_toArray, List.set_cons_zero, List.set_cons_succ]
              refine wpAnyH_take (i := 13) (oi := { dst := some 81, op := Op.move (Operand.tmp 6), type := 3, pos := "law.go:75", after := #[{ on := 11, ground := Ground.guard }], guard := some (11, false) }) (v := ?v113) rfl (by kernel_rfl) (by kernel_rfl) (by kernel_rfl) (fun _ _ _ h => h) (Or.inl ⟨by rfl, ?hy113⟩) (by assumption) ?_
              case hy113 => (intro w hSw; (try dsimp only at hSw); go_simp; try with_reducible rfl)
              try simp only [Act.put, List.setIfInBounds_toArray, List.set_cons_zero, List.set_cons_succ]
              refine wpAnyH_take (i := 14) (oi := { dst := some 82, op := Op.binOp BinOp.sub 3 (Operand.tmp 81) (Operand.const (Value.int IntKind.i64 1)) 3, type := 3, pos := "law.go:75", after := #[{ on := 13, ground := Ground.data }, { on := 11, ground := Ground.guard }], guard := some (11, false) }) (v := ?v114) rfl (by kernel_rfl) (by kernel_rfl) (by kernel_rfl) (fun _ _ _ h => h) (Or.inl ⟨by rfl, ?hy114⟩) (by assumption) ?_
              case hy114 => (intro w hSw; (try dsimp only at hSw); go_simp; try with_reducible rfl)
              try simp only [Act.put, List.setIfInBounds_toArray, List.set_cons_zero, List.set_cons_succ]
              refine wpAnyH_take (i := 15) (oi := { dst := some 83, op := Op.indexAddr 23 (Operand.tmp 80) (Operand.tmp 82), type := 0, pos := "law.go:75", after := #[{ on := 12, ground := Ground.data }, { on := 14, ground := Ground.data }, { on := 11, ground := Ground.guard }], guard := some (11, false) }) (v := ?v115) rfl (by kernel_rfl) (by kernel_rfl) (by kernel_rfl) (fun _ _ _ h => h) (Or.inl ⟨by rfl, ?hy115⟩) (by assumption) ?_
              case hy115 => (intro w hSw; (try dsimp only at hSw); go_simp; try with_reducible rfl)
              try simp only [Act.put, List.setIfInBounds_toArray, List.set_cons_zero, List.set_cons_succ]
              refine wpAnyH_take (i := 16) (oi := { dst := some 84, op := Op.load 9 (Operand.tmp 83), type := 9, pos := "law.go:75", after := #[{ on := 15, ground := Ground.data }, { on := 11, ground := Ground.guard }], guard := some (11, false) }) (v := ?v116) rfl (by kernel_rfl) (by kernel_rfl) (by kernel_rfl) (fun _ _ _ h => h) (Or.inl ⟨by rfl, ?hy116⟩) (by assumption) ?_
              case hy116 => (intro w hSw; (try dsimp only at hSw); go_simp; try with_reducible rfl)
              try simp only [Act.put, List.setIfInBounds_toArray, List.set_cons_zero, List.set_cons_succ]
              refine wpAnyH_take (i := 18) (oi := { dst := some 86, op := Op.move (Operand.tmp 5), type := 23, pos := "law.go:75", after := #[{ on := 11, ground := Ground.guard }], guard := some (11, false) }) (v := ?v117) rfl (by kernel_rfl) (by kernel_rfl) (by kernel_rfl) (fun _ _ _ h => h) (Or.inl ⟨by rfl, ?hy117⟩) (by assumption) ?_
              case hy117 => (intro w hSw; (try dsimp only at hSw); go_simp; try with_reducible rfl)
              try simp only [Act.put, List.setIfInBounds_toArray, List.set_cons_zero, List.set_cons_succ]
              refine wpAnyH_take (i := 19) (oi := { dst := some 87, op := Op.move (Operand.tmp 6), type := 3, pos := "law.go:75", after := #[{ on := 11, ground := Ground.guard }], guard := some (11, false) }) (v := ?v118) rfl (by kernel_rfl) (by kernel_rfl) (by kernel_rfl) (fun _ _ _ h => h) (Or.inl ⟨by rfl, ?hy118⟩) (by assumption) ?_
              case hy118 => (intro w hSw; (try dsimp only at hSw); go_simp; try with_reducible rfl)
              try simp only [Act.put, List.setIfInBounds_toArray, List.set_cons_zero, List.set_cons_succ]
              refine wpAnyH_take (i := 20) (oi := { dst := some 88, op := Op.indexAddr 23 (Operand.tmp 86) (Operand.tmp 87), type := 0, pos := "law.go:75", after := #[{ on := 18, ground := Ground.data }, { on := 19, ground := Ground.data }, { on := 11, ground := Ground.guard }], guard := some (11, false) }) (v := ?v119) rfl (by kernel_rfl) (by kernel_rfl) (by kernel_rfl) (fun _ _ _ h => h) (Or.inl ⟨by rfl, ?hy119⟩) (by assumption) ?_
              case hy119 => (intro w hSw; (try dsimp only at hSw); go_simp; try with_reducible rfl)
              try simp only [Act.put, List.setIfInBounds_toArray, List.set_cons_zero, List.set_cons_succ]
              refine wpAnyH_take (i := 21) (oi := { dst := some 89, op := Op.load 9 (Operand.tmp 88), type := 9, pos := "law.go:75", after := #[{ on := 20, ground := Ground.data }, { on := 11, ground := Ground.guard }], guard := some (11, false) }) (v := ?v120) rfl (by kernel_rfl) (by kernel_rfl) (by kernel_rfl) (fun _ _ _ h => h) (Or.inl ⟨by rfl, ?hy120⟩) (by assumption) ?_
              case hy120 => (intro w hSw; (try dsimp only at hSw); go_simp; try with_reducible rfl)
              try simp only [Act.put, List.setIfInBounds_toArray, List.set_cons_zero, List.set_cons_succ]
              refine wpAnyH_ready (rs := [17]) (by kernel_rfl) (by simp) ?_
              refine AllReadyH.cons (o := { dst := some 85, op := Op.call { callee := Callee.value (Operand.func 17), args := #[Operand.tmp 84], argTypes := #[9] }, type := 9, pos := "law.go:75", after := #[{ on := 16, ground := Ground.data }, { on := 11, ground := Ground.chain }, { on := 11, ground := Ground.guard }], guard := some (11, false) }) rfl (fun K hK => ?_) AllReadyH.nil
              rw [if_pos (by rfl)]
              go_wp2_with (go_at_call 17; refine (up_any _ _ (HG.out.below acc) (by assumption)).mono ?_; rintro e w9 ⟨rfl, hb⟩; (first | rw [HU.out] | rw [HV.out]); replace acc := acc.trans (hb.mono acc.size); replace acc1 := acc1.trans (hb.mono acc1.size); clear hb)
              refine hK.out _ _ (KP.out _ acc1) (fun hHeld => ?_)
              clear hK K
              try simp only [Act.put, List.setIfInBounds_toArray, List.set_cons_zero, List.set_cons_succ]
              refine wpAnyH_take (i := 22) (oi := { dst := some 90, op := Op.binOp BinOp.eql 9 (Operand.tmp 85) (Operand.tmp 89) 9, type := 4, pos := "law.go:75", after := #[{ on := 17, ground := Ground.data }, { on := 21, ground := Ground.data }, { on := 11, ground := Ground.guard }], guard := some (11, false) }) (v := ?v121) rfl (by kernel_rfl) (by kernel_rfl) (by kernel_rfl) (fun _ _ _ h => h) (Or.inl ⟨by rfl, ?hy121⟩) (by assumption) ?_
              case hy121 => (intro w hSw; (try dsimp only at hSw); go_simp; try with_reducible rfl)
              try simp only [Act.put, List.setIfInBounds_toArray, List.set_cons_zero, List.set_cons_succ]
              refine wpAnyH_take (i := 23) (oi := { dst := some 91, op := Op.pick (Operand.tmp 79) (Operand.const (Value.bool true)) (Operand.tmp 90), type := 4, pos := "law.go:75", after := #[{ on := 11, ground := Ground.data }, { on := 22, ground := Ground.data }], guard := none }) (v := ?v122) rfl (by kernel_rfl) (by kernel_rfl) (by kernel_rfl) (fun _ _ _ h => h) (Or.inl ⟨by rfl, ?hy122⟩) (by assumption) ?_
              case hy122 => (intro w hSw; (try dsimp only at hSw); go_simp; try with_reducible rfl)
              try simp only [Act.put, List.setIfInBounds_toArray, List.set_cons_zero, List.set_cons_succ]
              refine wpAnyH_take (i := 24) (oi := { dst := some 8, op := Op.assign (Operand.tmp 91), type := 4, pos := "law.go:75", after := #[{ on := 23, ground := Ground.data }, { on := 17, ground := Ground.chain }, { on := 0, ground := Ground.phase }, { on := 1, ground := Ground.phase }, { on := 2, ground := Ground.phase }, { on := 3, ground := Ground.phase }, { on := 4, ground := Ground.phase }, { on := 5, ground := Ground.phase }, { on := 6, ground := Ground.phase }, { on := 7, ground := Ground.phase }, { on := 8, ground := Ground.phase }, { on := 9, ground := Ground.phase }, { on := 10, ground := Ground.phase }, { on := 11, ground := Ground.phase }, { on := 12, ground := Ground.phase }, { on := 13, ground := Ground.phase }, { on := 14, ground := Ground.phase }, { on := 15, ground := Ground.phase }, { on := 16, ground := Ground.phase }, { on := 17, ground := Ground.phase }, { on := 18, ground := Ground.phase }, { on := 19, ground := Ground.phase }, { on := 20, ground := Ground.phase }, { on := 21, ground := Ground.phase }, { on := 22, ground := Ground.phase }, { on := 23, ground := Ground.phase }], guard := none }) (v := ?v123) rfl (by kernel_rfl) (by kernel_rfl) (by kernel_rfl) (fun _ _ _ h => h) (Or.inl ⟨by rfl, ?hy123⟩) (by assumption) ?_
              case hy123 => (intro w hSw; (try dsimp only at hSw); go_simp; try with_reducible rfl)
              try simp only [Act.put, List.setIfInBounds_toArray, List.set_cons_zero, List.set_cons_succ]
              refine wpAnyH_done (by kernel_rfl) ?_ _
              obtain ⟨kx2, kp2⟩ := KP.out _ acc1
              try have e3 := HE3.out
              try have e4 := HE4.out
              go_wp2_with (go_at_call 17; refine (up_any _ _ (HG.out.below acc) (by assumption)).mono ?_; rintro e w9 ⟨rfl, hb⟩; (first | rw [HU.out] | rw [HV.out]); replace acc := acc.trans (hb.mono acc.size); replace acc1 := acc1.trans (hb.mono acc1.size); obtain ⟨kx2, kp2⟩ := KP.out _ acc1; clear hb)
              go_roundg (N - (k + 1))
              case measure => omega
              case rel => exact ⟨k + 1, by omega, by omega, by go_num, acc1⟩
            · have e3b : u.toList.isEmpty = true := by simpa using e3
              have e4b : v.toList.isEmpty = false := by simpa using e4
              have HE3 := Lib.hid e3
              have HE4 := Lib.hid e4
              clear e3 e4
              have hwr : IntKind.i64.wrap ((k : Int) - 1) = ((k - 1 : Nat) : Int) := by
                rw [IntKind.wrap_i64]; omega
              have hwr2 : IntKind.i64.wrap ((k - 1 : Nat) : Int) = ((k - 1 : Nat) : Int) := by
                rw [IntKind.wrap_i64]; omega
              have hzk : (k : Int) < (N : Int) := by omega
              have hz0 : (0 : Int) ≤ ((k - 1 : Nat) : Int) := by omega
              have hz1 : (0 : Int) ≤ (k : Int) := by omega
              go_wp2
              have acc1 := acc1.drew
              have acc := acc.drew
              refine wp_region_held_drew (S := (fun W => W.cell? ⟨g7, k, none⟩ = some (.string x) ∧ W.cell? ⟨g7, k - 1, none⟩ = some (.string p))) (by kernel_rfl) (KP.out _ acc1) (fun hHeld => ?_)
              refine wpAnyH_take (i := 0) (oi := { dst := some 68, op := Op.move (Operand.tmp 5), type := 23, pos := "law.go:75", after := #[], guard := none }) (v := ?v124) rfl (by kernel_rfl) (by kernel_rfl) (by kernel_rfl) (fun _ _ _ h => h) (Or.inl ⟨by rfl, ?hy124⟩) (by assumption) ?_
              case hy124 => (intro w hSw; (try dsimp only at hSw); go_simp; try with_reducible rfl)
              try simp only [Act.put, List.setIfInBounds_toArray, List.set_cons_zero, List.set_cons_succ]
              refine wpAnyH_take (i := 1) (oi := { dst := some 69, op := Op.move (Operand.tmp 6), type := 3, pos := "law.go:75", after := #[], guard := none }) (v := ?v125) rfl (by kernel_rfl) (by kernel_rfl) (by kernel_rfl) (fun _ _ _ h => h) (Or.inl ⟨by rfl, ?hy125⟩) (by assumption) ?_
              case hy125 => (intro w hSw; (try dsimp only at hSw); go_simp; try with_reducible rfl)
              try simp only [Act.put, List.setIfInBounds_toArray, List.set_cons_zero, List.set_cons_succ]
              refine wpAnyH_take (i := 2) (oi := { dst := some 70, op := Op.indexAddr 23 (Operand.tmp 68) (Operand.tmp 69), type := 0, pos := "law.go:75", after := #[{ on := 0, ground := Ground.data }, { on := 1, ground := Ground.data }], guard := none }) (v := ?v126) rfl (by kernel_rfl) (by kernel_rfl) (by kernel_rfl) (fun _ _ _ h => h) (Or.inl ⟨by rfl, ?hy126⟩) (by assumption) ?_
              case hy126 => (intro w hSw; (try dsimp only at hSw); go_simp; try with_reducible rfl)
              try simp only [Act.put, List.setIfInBounds_toArray, List.set_cons_zero, List.set_cons_succ]
              refine wpAnyH_take (i := 3) (oi := { dst := some 71, op := Op.load 9 (Operand.tmp 70), type := 9, pos := "law.go:75", after := #[{ on := 2, ground := Ground.data }], guard := none }) (v := ?v127) rfl (by kernel_rfl) (by kernel_rfl) (by kernel_rfl) (fun _ _ _ h => h) (Or.inl ⟨by rfl, ?hy127⟩) (by assumption) ?_
              case hy127 => (intro w hSw; (try dsimp only at hSw); go_simp; try with_reducible rfl)
              try simp only [Act.put, List.setIfInBounds_toArray, List.set_cons_zero, List.set_cons_succ]
              refine wpAnyH_take (i := 5) (oi := { dst := some 73, op := Op.move (Operand.tmp 5), type := 23, pos := "law.go:75", after := #[], guard := none }) (v := ?v128) rfl (by kernel_rfl) (by kernel_rfl) (by kernel_rfl) (fun _ _ _ h => h) (Or.inl ⟨by rfl, ?hy128⟩) (by assumption) ?_
              case hy128 => (intro w hSw; (try dsimp only at hSw); go_simp; try with_reducible rfl)
              try simp only [Act.put, List.setIfInBounds_toArray, List.set_cons_zero, List.set_cons_succ]
              refine wpAnyH_take (i := 6) (oi := { dst := some 74, op := Op.move (Operand.tmp 6), type := 3, pos := "law.go:75", after := #[], guard := none }) (v := ?v129) rfl (by kernel_rfl) (by kernel_rfl) (by kernel_rfl) (fun _ _ _ h => h) (Or.inl ⟨by rfl, ?hy129⟩) (by assumption) ?_
              case hy129 => (intro w hSw; (try dsimp only at hSw); go_simp; try with_reducible rfl)
              try simp only [Act.put, List.setIfInBounds_toArray, List.set_cons_zero, List.set_cons_succ]
              refine wpAnyH_take (i := 7) (oi := { dst := some 75, op := Op.binOp BinOp.sub 3 (Operand.tmp 74) (Operand.const (Value.int IntKind.i64 1)) 3, type := 3, pos := "law.go:75", after := #[{ on := 6, ground := Ground.data }], guard := none }) (v := ?v130) rfl (by kernel_rfl) (by kernel_rfl) (by kernel_rfl) (fun _ _ _ h => h) (Or.inl ⟨by rfl, ?hy130⟩) (by assumption) ?_
              case hy130 => (intro w hSw; (try dsimp only at hSw); go_simp; try with_reducible rfl)
              try simp only [Act.put, List.setIfInBounds_toArray, List.set_cons_zero, List.set_cons_succ]
              refine wpAnyH_take (i := 8) (oi := { dst := some 76, op := Op.indexAddr 23 (Operand.tmp 73) (Operand.tmp 75), type := 0, pos := "law.go:75", after := #[{ on := 5, ground := Ground.data }, { on := 7, ground := Ground.data }], guard := none }) (v := ?v131) rfl (by kernel_rfl) (by kernel_rfl) (by kernel_rfl) (fun _ _ _ h => h) (Or.inl ⟨by rfl, ?hy131⟩) (by assumption) ?_
              case hy131 => (intro w hSw; (try dsimp only at hSw); go_simp; try with_reducible rfl)
              try simp only [Act.put, List.setIfInBounds_toArray, List.set_cons_zero, List.set_cons_succ]
              refine wpAnyH_take (i := 9) (oi := { dst := some 77, op := Op.load 9 (Operand.tmp 76), type := 9, pos := "law.go:75", after := #[{ on := 8, ground := Ground.data }], guard := none }) (v := ?v132) rfl (by kernel_rfl) (by kernel_rfl) (by kernel_rfl) (fun _ _ _ h => h) (Or.inl ⟨by rfl, ?hy132⟩) (by assumption) ?_
              case hy132 => (intro w hSw; (try dsimp only at hSw); go_simp; try with_reducible rfl)
              try simp only [Act.put, List.setIfInBounds_toArray, List.set_cons_zero, List.set_cons_succ]
              refine wpAnyH_ready (rs := [4]) (by kernel_rfl) (by simp) ?_
              refine AllReadyH.cons (o := { dst := some 72, op := Op.call { callee := Callee.value (Operand.func 17), args := #[Operand.tmp 71], argTypes := #[9] }, type := 9, pos := "law.go:75", after := #[{ on := 3, ground := Ground.data }], guard := none }) rfl (fun K hK => ?_) AllReadyH.nil
              go_wp2_with (go_at_call 17; refine (up_any _ _ (HG.out.below acc) (by assumption)).mono ?_; rintro e w9 ⟨rfl, hb⟩; (first | rw [HU.out] | rw [HV.out]); replace acc := acc.trans (hb.mono acc.size); replace acc1 := acc1.trans (hb.mono acc1.size); clear hb)
              refine hK.out _ _ (KP.out _ acc1) (fun hHeld => ?_)
              clear hK K
              try simp only [Act.put, List.setIfInBounds_toArray, List.set_cons_zero, List.set_cons_succ]
              refine wpAnyH_take (i := 10) (oi := { dst := some 78, op := Op.binOp BinOp.eql 9 (Operand.tmp 72) (Operand.tmp 77) 9, type := 4, pos := "law.go:75", after := #[{ on := 4, ground := Ground.data }, { on := 9, ground := Ground.data }], guard := none }) (v := ?v133) rfl (by kernel_rfl) (by kernel_rfl) (by kernel_rfl) (fun _ _ _ h => h) (Or.inl ⟨by rfl, ?hy133⟩) (by assumption) ?_
              case hy133 => (intro w hSw; (try dsimp only at hSw); go_simp; try with_reducible rfl)
              try simp only [Act.put, List.setIfInBounds_toArray, List.set_cons_zero, List.set_cons_succ]
              refine wpAnyH_take (i := 11) (oi := { dst := some 79, op := Op.move (Operand.tmp 78), type := 4, pos := "law.go:75", after := #[{ on := 10, ground := Ground.data }, { on := 4, ground := Ground.chain }], guard := none }) (v := ?v134) rfl (by kernel_rfl) (by kernel_rfl) (by kernel_rfl) (fun _ _ _ h => h) (Or.inl ⟨by rfl, ?hy134⟩) (by assumption) ?_
              case hy134 => (intro w hSw; (try dsimp only at hSw); go_simp; try with_reducible rfl)
              try simp only [Act.put, List.setIfInBounds_toArray, List.set_cons_zero, List.set_cons_succ]
              refine wpAnyH_take (i := 12) (oi := { dst := some 80, op := Op.move (Operand.tmp 5), type := 23, pos := "law.go:75", after := #[{ on := 11, ground := Ground.guard }], guard := some (11, false) }) (v := ?v135) rfl (by kernel_rfl) (by kernel_rfl) (by kernel_rfl) (fun _ _ _ h => h) (Or.inl ⟨by rfl, ?hy135⟩) (by assumption) ?_
              case hy135 => (intro w hSw; (try dsimp only at hSw); go_simp; try with_reducible rfl)
              try simp only [Act.put, List.setIfInBounds_toArray, List.set_cons_zero, List.set_cons_succ]
              refine wpAnyH_take (i := 13) (oi := { dst := some 81, op := Op.move (Operand.tmp 6), type := 3, pos := "law.go:75", after := #[{ on := 11, ground := Ground.guard }], guard := some (11, false) }) (v := ?v136) rfl (by kernel_rfl) (by kernel_rfl) (by kernel_rfl) (fun _ _ _ h => h) (Or.inl ⟨by rfl, ?hy136⟩) (by assumption) ?_
              case hy136 => (intro w hSw; (try dsimp only at hSw); go_simp; try with_reducible rfl)
              try simp only [Act.put, List.setIfInBounds_toArray, List.set_cons_zero, List.set_cons_succ]
              refine wpAnyH_take (i := 14) (oi := { dst := some 82, op := Op.binOp BinOp.sub 3 (Operand.tmp 81) (Operand.const (Value.int IntKind.i64 1)) 3, type := 3, pos := "law.go:75", after := #[{ on := 13, ground := Ground.data }, { on := 11, ground := Ground.guard }], guard := some (11, false) }) (v := ?v137) rfl (by kernel_rfl) (by kernel_rfl) (by kernel_rfl) (fun _ _ _ h => h) (Or.inl ⟨by rfl, ?hy137⟩) (by assumption) ?_
              case hy137 => (intro w hSw; (try dsimp only at hSw); go_simp; try with_reducible rfl)
              try simp only [Act.put, List.setIfInBounds_toArray, List.set_cons_zero, List.set_cons_succ]
              refine wpAnyH_take (i := 15) (oi := { dst := some 83, op := Op.indexAddr 23 (Operand.tmp 80) (Operand.tmp 82), type := 0, pos := "law.go:75", after := #[{ on := 12, ground := Ground.data }, { on := 14, ground := Ground.data }, { on := 11, ground := Ground.guard }], guard := some (11, false) }) (v := ?v138) rfl (by kernel_rfl) (by kernel_rfl) (by kernel_rfl) (fun _ _ _ h => h) (Or.inl ⟨by rfl, ?hy138⟩) (by assumption) ?_
              case hy138 => (intro w hSw; (try dsimp only at hSw); go_simp; try with_reducible rfl)
              try simp only [Act.put, List.setIfInBounds_toArray, List.set_cons_zero, List.set_cons_succ]
              refine wpAnyH_take (i := 16) (oi := { dst := some 84, op := Op.load 9 (Operand.tmp 83), type := 9, pos := "law.go:75", after := #[{ on := 15, ground := Ground.data }, { on := 11, ground := Ground.guard }], guard := some (11, false) }) (v := ?v139) rfl (by kernel_rfl) (by kernel_rfl) (by kernel_rfl) (fun _ _ _ h => h) (Or.inl ⟨by rfl, ?hy139⟩) (by assumption) ?_
              case hy139 => (intro w hSw; (try dsimp only at hSw); go_simp; try with_reducible rfl)
              try simp only [Act.put, List.setIfInBounds_toArray, List.set_cons_zero, List.set_cons_succ]
              refine wpAnyH_take (i := 18) (oi := { dst := some 86, op := Op.move (Operand.tmp 5), type := 23, pos := "law.go:75", after := #[{ on := 11, ground := Ground.guard }], guard := some (11, false) }) (v := ?v140) rfl (by kernel_rfl) (by kernel_rfl) (by kernel_rfl) (fun _ _ _ h => h) (Or.inl ⟨by rfl, ?hy140⟩) (by assumption) ?_
              case hy140 => (intro w hSw; (try dsimp only at hSw); go_simp; try with_reducible rfl)
              try simp only [Act.put, List.setIfInBounds_toArray, List.set_cons_zero, List.set_cons_succ]
              refine wpAnyH_take (i := 19) (oi := { dst := some 87, op := Op.move (Operand.tmp 6), type := 3, pos := "law.go:75", after := #[{ on := 11, ground := Ground.guard }], guard := some (11, false) }) (v := ?v141) rfl (by kernel_rfl) (by kernel_rfl) (by kernel_rfl) (fun _ _ _ h => h) (Or.inl ⟨by rfl, ?hy141⟩) (by assumption) ?_
              case hy141 => (intro w hSw; (try dsimp only at hSw); go_simp; try with_reducible rfl)
              try simp only [Act.put, List.setIfInBounds_toArray, List.set_cons_zero, List.set_cons_succ]
              refine wpAnyH_take (i := 20) (oi := { dst := some 88, op := Op.indexAddr 23 (Operand.tmp 86) (Operand.tmp 87), type := 0, pos := "law.go:75", after := #[{ on := 18, ground := Ground.data }, { on := 19, ground := Ground.data }, { on := 11, ground := Ground.guard }], guard := some (11, false) }) (v := ?v142) rfl (by kernel_rfl) (by kernel_rfl) (by kernel_rfl) (fun _ _ _ h => h) (Or.inl ⟨by rfl, ?hy142⟩) (by assumption) ?_
              case hy142 => (intro w hSw; (try dsimp only at hSw); go_simp; try with_reducible rfl)
              try simp only [Act.put, List.setIfInBounds_toArray, List.set_cons_zero, List.set_cons_succ]
              refine wpAnyH_take (i := 21) (oi := { dst := some 89, op := Op.load 9 (Operand.tmp 88), type := 9, pos := "law.go:75", after := #[{ on := 20, ground := Ground.data }, { on := 11, ground := Ground.guard }], guard := some (11, false) }) (v := ?v143) rfl (by kernel_rfl) (by kernel_rfl) (by kernel_rfl) (fun _ _ _ h => h) (Or.inl ⟨by rfl, ?hy143⟩) (by assumption) ?_
              case hy143 => (intro w hSw; (try dsimp only at hSw); go_simp; try with_reducible rfl)
              try simp only [Act.put, List.setIfInBounds_toArray, List.set_cons_zero, List.set_cons_succ]
              refine wpAnyH_ready (rs := [17]) (by kernel_rfl) (by simp) ?_
              refine AllReadyH.cons (o := { dst := some 85, op := Op.call { callee := Callee.value (Operand.func 17), args := #[Operand.tmp 84], argTypes := #[9] }, type := 9, pos := "law.go:75", after := #[{ on := 16, ground := Ground.data }, { on := 11, ground := Ground.chain }, { on := 11, ground := Ground.guard }], guard := some (11, false) }) rfl (fun K hK => ?_) AllReadyH.nil
              rw [if_pos (by rfl)]
              go_wp2_with (go_at_call 17; refine (up_any _ _ (HG.out.below acc) (by assumption)).mono ?_; rintro e w9 ⟨rfl, hb⟩; (first | rw [HU.out] | rw [HV.out]); replace acc := acc.trans (hb.mono acc.size); replace acc1 := acc1.trans (hb.mono acc1.size); clear hb)
              refine hK.out _ _ (KP.out _ acc1) (fun hHeld => ?_)
              clear hK K
              try simp only [Act.put, List.setIfInBounds_toArray, List.set_cons_zero, List.set_cons_succ]
              refine wpAnyH_take (i := 22) (oi := { dst := some 90, op := Op.binOp BinOp.eql 9 (Operand.tmp 85) (Operand.tmp 89) 9, type := 4, pos := "law.go:75", after := #[{ on := 17, ground := Ground.data }, { on := 21, ground := Ground.data }, { on := 11, ground := Ground.guard }], guard := some (11, false) }) (v := ?v144) rfl (by kernel_rfl) (by kernel_rfl) (by kernel_rfl) (fun _ _ _ h => h) (Or.inl ⟨by rfl, ?hy144⟩) (by assumption) ?_
              case hy144 => (intro w hSw; (try dsimp only at hSw); go_simp; try with_reducible rfl)
              try simp only [Act.put, List.setIfInBounds_toArray, List.set_cons_zero, List.set_cons_succ]
              refine wpAnyH_take (i := 23) (oi := { dst := some 91, op := Op.pick (Operand.tmp 79) (Operand.const (Value.bool true)) (Operand.tmp 90), type := 4, pos := "law.go:75", after := #[{ on := 11, ground := Ground.data }, { on := 22, ground := Ground.data }], guard := none }) (v := ?v145) rfl (by kernel_rfl) (by kernel_rfl) (by kernel_rfl) (fun _ _ _ h => h) (Or.inl ⟨by rfl, ?hy145⟩) (by assumption) ?_
              case hy145 => (intro w hSw; (try dsimp only at hSw); go_simp; try with_reducible rfl)
              try simp only [Act.put, List.setIfInBounds_toArray, List.set_cons_zero, List.set_cons_succ]
              refine wpAnyH_take (i := 24) (oi := { dst := some 8, op := Op.assign (Operand.tmp 91), type := 4, pos := "law.go:75", after := #[{ on := 23, ground := Ground.data }, { on := 17, ground := Ground.chain }, { on := 0, ground := Ground.phase }, { on := 1, ground := Ground.phase }, { on := 2, ground := Ground.phase }, { on := 3, ground := Ground.phase }, { on := 4, ground := Ground.phase }, { on := 5, ground := Ground.phase }, { on := 6, ground := Ground.phase }, { on := 7, ground := Ground.phase }, { on := 8, ground := Ground.phase }, { on := 9, ground := Ground.phase }, { on := 10, ground := Ground.phase }, { on := 11, ground := Ground.phase }, { on := 12, ground := Ground.phase }, { on := 13, ground := Ground.phase }, { on := 14, ground := Ground.phase }, { on := 15, ground := Ground.phase }, { on := 16, ground := Ground.phase }, { on := 17, ground := Ground.phase }, { on := 18, ground := Ground.phase }, { on := 19, ground := Ground.phase }, { on := 20, ground := Ground.phase }, { on := 21, ground := Ground.phase }, { on := 22, ground := Ground.phase }, { on := 23, ground := Ground.phase }], guard := none }) (v := ?v146) rfl (by kernel_rfl) (by kernel_rfl) (by kernel_rfl) (fun _ _ _ h => h) (Or.inl ⟨by rfl, ?hy146⟩) (by assumption) ?_
              case hy146 => (intro w hSw; (try dsimp only at hSw); go_simp; try with_reducible rfl)
              try simp only [Act.put, List.setIfInBounds_toArray, List.set_cons_zero, List.set_cons_succ]
              refine wpAnyH_done (by kernel_rfl) ?_ _
              obtain ⟨kx2, kp2⟩ := KP.out _ acc1
              try have e3 := HE3.out
              try have e4 := HE4.out
              go_wp2_with (go_at_call 17; refine (up_any _ _ (HG.out.below acc) (by assumption)).mono ?_; rintro e w9 ⟨rfl, hb⟩; (first | rw [HU.out] | rw [HV.out]); replace acc := acc.trans (hb.mono acc.size); replace acc1 := acc1.trans (hb.mono acc1.size); obtain ⟨kx2, kp2⟩ := KP.out _ acc1; clear hb)
              go_roundg (N - (k + 1))
              case measure => omega
              case rel => exact ⟨k + 1, by omega, by omega, by go_num, acc1⟩
            · have e3b : u.toList.isEmpty = true := by simpa using e3
              have e4b : v.toList.isEmpty = true := by simpa using e4
              have HE3 := Lib.hid e3
              have HE4 := Lib.hid e4
              clear e3 e4
              have hwr : IntKind.i64.wrap ((k : Int) - 1) = ((k - 1 : Nat) : Int) := by
                rw [IntKind.wrap_i64]; omega
              have hwr2 : IntKind.i64.wrap ((k - 1 : Nat) : Int) = ((k - 1 : Nat) : Int) := by
                rw [IntKind.wrap_i64]; omega
              have hzk : (k : Int) < (N : Int) := by omega
              have hz0 : (0 : Int) ≤ ((k - 1 : Nat) : Int) := by omega
              have hz1 : (0 : Int) ≤ (k : Int) := by omega
              go_wp2
              have acc1 := acc1.drew
              have acc := acc.drew
              refine wp_region_held_drew (S := (fun W => W.cell? ⟨g7, k, none⟩ = some (.string x) ∧ W.cell? ⟨g7, k - 1, none⟩ = some (.string p))) (by kernel_rfl) (KP.out _ acc1) (fun hHeld => ?_)
              refine wpAnyH_take (i := 0) (oi := { dst := some 68, op := Op.move (Operand.tmp 5), type := 23, pos := "law.go:75", after := #[], guard := none }) (v := ?v147) rfl (by kernel_rfl) (by kernel_rfl) (by kernel_rfl) (fun _ _ _ h => h) (Or.inl ⟨by rfl, ?hy147⟩) (by assumption) ?_
              case hy147 => (intro w hSw; (try dsimp only at hSw); go_simp; try with_reducible rfl)
              try simp only [Act.put, List.setIfInBounds_toArray, List.set_cons_zero, List.set_cons_succ]
              refine wpAnyH_take (i := 1) (oi := { dst := some 69, op := Op.move (Operand.tmp 6), type := 3, pos := "law.go:75", after := #[], guard := none }) (v := ?v148) rfl (by kernel_rfl) (by kernel_rfl) (by kernel_rfl) (fun _ _ _ h => h) (Or.inl ⟨by rfl, ?hy148⟩) (by assumption) ?_
              case hy148 => (intro w hSw; (try dsimp only at hSw); go_simp; try with_reducible rfl)
              try simp only [Act.put, List.setIfInBounds_toArray, List.set_cons_zero, List.set_cons_succ]
              refine wpAnyH_take (i := 2) (oi := { dst := some 70, op := Op.indexAddr 23 (Operand.tmp 68) (Operand.tmp 69), type := 0, pos := "law.go:75", after := #[{ on := 0, ground := Ground.data }, { on := 1, ground := Ground.data }], guard := none }) (v := ?v149) rfl (by kernel_rfl) (by kernel_rfl) (by kernel_rfl) (fun _ _ _ h => h) (Or.inl ⟨by rfl, ?hy149⟩) (by assumption) ?_
              case hy149 => (intro w hSw; (try dsimp only at hSw); go_simp; try with_reducible rfl)
              try simp only [Act.put, List.setIfInBounds_toArray, List.set_cons_zero, List.set_cons_succ]
              refine wpAnyH_take (i := 3) (oi := { dst := some 71, op := Op.load 9 (Operand.tmp 70), type := 9, pos := "law.go:75", after := #[{ on := 2, ground := Ground.data }], guard := none }) (v := ?v150) rfl (by kernel_rfl) (by kernel_rfl) (by kernel_rfl) (fun _ _ _ h => h) (Or.inl ⟨by rfl, ?hy150⟩) (by assumption) ?_
              case hy150 => (intro w hSw; (try dsimp only at hSw); go_simp; try with_reducible rfl)
              try simp only [Act.put, List.setIfInBounds_toArray, List.set_cons_zero, List.set_cons_succ]
              refine wpAnyH_take (i := 5) (oi := { dst := some 73, op := Op.move (Operand.tmp 5), type := 23, pos := "law.go:75", after := #[], guard := none }) (v := ?v151) rfl (by kernel_rfl) (by kernel_rfl) (by kernel_rfl) (fun _ _ _ h => h) (Or.inl ⟨by rfl, ?hy151⟩) (by assumption) ?_
              case hy151 => (intro w hSw; (try dsimp only at hSw); go_simp; try with_reducible rfl)
              try simp only [Act.put, List.setIfInBounds_toArray, List.set_cons_zero, List.set_cons_succ]
              refine wpAnyH_take (i := 6) (oi := { dst := some 74, op := Op.move (Operand.tmp 6), type := 3, pos := "law.go:75", after := #[], guard := none }) (v := ?v152) rfl (by kernel_rfl) (by kernel_rfl) (by kernel_rfl) (fun _ _ _ h => h) (Or.inl ⟨by rfl, ?hy152⟩) (by assumption) ?_
              case hy152 => (intro w hSw; (try dsimp only at hSw); go_simp; try with_reducible rfl)
              try simp only [Act.put, List.setIfInBounds_toArray, List.set_cons_zero, List.set_cons_succ]
              refine wpAnyH_take (i := 7) (oi := { dst := some 75, op := Op.binOp BinOp.sub 3 (Operand.tmp 74) (Operand.const (Value.int IntKind.i64 1)) 3, type := 3, pos := "law.go:75", after := #[{ on := 6, ground := Ground.data }], guard := none }) (v := ?v153) rfl (by kernel_rfl) (by kernel_rfl) (by kernel_rfl) (fun _ _ _ h => h) (Or.inl ⟨by rfl, ?hy153⟩) (by assumption) ?_
              case hy153 => (intro w hSw; (try dsimp only at hSw); go_simp; try with_reducible rfl)
              try simp only [Act.put, List.setIfInBounds_toArray, List.set_cons_zero, List.set_cons_succ]
              refine wpAnyH_take (i := 8) (oi := { dst := some 76, op := Op.indexAddr 23 (Operand.tmp 73) (Operand.tmp 75), type := 0, pos := "law.go:75", after := #[{ on := 5, ground := Ground.data }, { on := 7, ground := Ground.data }], guard := none }) (v := ?v154) rfl (by kernel_rfl) (by kernel_rfl) (by kernel_rfl) (fun _ _ _ h => h) (Or.inl ⟨by rfl, ?hy154⟩) (by assumption) ?_
              case hy154 => (intro w hSw; (try dsimp only at hSw); go_simp; try with_reducible rfl)
              try simp only [Act.put, List.setIfInBounds_toArray, List.set_cons_zero, List.set_cons_succ]
              refine wpAnyH_take (i := 9) (oi := { dst := some 77, op := Op.load 9 (Operand.tmp 76), type := 9, pos := "law.go:75", after := #[{ on := 8, ground := Ground.data }], guard := none }) (v := ?v155) rfl (by kernel_rfl) (by kernel_rfl) (by kernel_rfl) (fun _ _ _ h => h) (Or.inl ⟨by rfl, ?hy155⟩) (by assumption) ?_
              case hy155 => (intro w hSw; (try dsimp only at hSw); go_simp; try with_reducible rfl)
              try simp only [Act.put, List.setIfInBounds_toArray, List.set_cons_zero, List.set_cons_succ]
              refine wpAnyH_ready (rs := [4]) (by kernel_rfl) (by simp) ?_
              refine AllReadyH.cons (o := { dst := some 72, op := Op.call { callee := Callee.value (Operand.func 17), args := #[Operand.tmp 71], argTypes := #[9] }, type := 9, pos := "law.go:75", after := #[{ on := 3, ground := Ground.data }], guard := none }) rfl (fun K hK => ?_) AllReadyH.nil
              go_wp2_with (go_at_call 17; refine (up_any _ _ (HG.out.below acc) (by assumption)).mono ?_; rintro e w9 ⟨rfl, hb⟩; (first | rw [HU.out] | rw [HV.out]); replace acc := acc.trans (hb.mono acc.size); replace acc1 := acc1.trans (hb.mono acc1.size); clear hb)
              refine hK.out _ _ (KP.out _ acc1) (fun hHeld => ?_)
              clear hK K
              try simp only [Act.put, List.setIfInBounds_toArray, List.set_cons_zero, List.set_cons_succ]
              refine wpAnyH_take (i := 10) (oi := { dst := some 78, op := Op.binOp BinOp.eql 9 (Operand.tmp 72) (Operand.tmp 77) 9, type := 4, pos := "law.go:75", after := #[{ on := 4, ground := Ground.data }, { on := 9, ground := Ground.data }], guard := none }) (v := ?v156) rfl (by kernel_rfl) (by kernel_rfl) (by kernel_rfl) (fun _ _ _ h => h) (Or.inl ⟨by rfl, ?hy156⟩) (by assumption) ?_
              case hy156 => (intro w hSw; (try dsimp only at hSw); go_simp; try with_reducible rfl)
              try simp only [Act.put, List.setIfInBounds_toArray, List.set_cons_zero, List.set_cons_succ]
              refine wpAnyH_take (i := 11) (oi := { dst := some 79, op := Op.move (Operand.tmp 78), type := 4, pos := "law.go:75", after := #[{ on := 10, ground := Ground.data }, { on := 4, ground := Ground.chain }], guard := none }) (v := ?v157) rfl (by kernel_rfl) (by kernel_rfl) (by kernel_rfl) (fun _ _ _ h => h) (Or.inl ⟨by rfl, ?hy157⟩) (by assumption) ?_
              case hy157 => (intro w hSw; (try dsimp only at hSw); go_simp; try with_reducible rfl)
              try simp only [Act.put, List.setIfInBounds_toArray, List.set_cons_zero, List.set_cons_succ]
              refine wpAnyH_take (i := 12) (oi := { dst := some 80, op := Op.move (Operand.tmp 5), type := 23, pos := "law.go:75", after := #[{ on := 11, ground := Ground.guard }], guard := some (11, false) }) (v := ?v158) rfl (by kernel_rfl) (by kernel_rfl) (by kernel_rfl) (fun _ _ _ h => h) (Or.inl ⟨by rfl, ?hy158⟩) (by assumption) ?_
              case hy158 => (intro w hSw; (try dsimp only at hSw); go_simp; try with_reducible rfl)
              try simp only [Act.put, List.setIfInBounds_toArray, List.set_cons_zero, List.set_cons_succ]
              refine wpAnyH_take (i := 13) (oi := { dst := some 81, op := Op.move (Operand.tmp 6), type := 3, pos := "law.go:75", after := #[{ on := 11, ground := Ground.guard }], guard := some (11, false) }) (v := ?v159) rfl (by kernel_rfl) (by kernel_rfl) (by kernel_rfl) (fun _ _ _ h => h) (Or.inl ⟨by rfl, ?hy159⟩) (by assumption) ?_
              case hy159 => (intro w hSw; (try dsimp only at hSw); go_simp; try with_reducible rfl)
              try simp only [Act.put, List.setIfInBounds_toArray, List.set_cons_zero, List.set_cons_succ]
              refine wpAnyH_take (i := 14) (oi := { dst := some 82, op := Op.binOp BinOp.sub 3 (Operand.tmp 81) (Operand.const (Value.int IntKind.i64 1)) 3, type := 3, pos := "law.go:75", after := #[{ on := 13, ground := Ground.data }, { on := 11, ground := Ground.guard }], guard := some (11, false) }) (v := ?v160) rfl (by kernel_rfl) (by kernel_rfl) (by kernel_rfl) (fun _ _ _ h => h) (Or.inl ⟨by rfl, ?hy160⟩) (by assumption) ?_
              case hy160 => (intro w hSw; (try dsimp only at hSw); go_simp; try with_reducible rfl)
              try simp only [Act.put, List.setIfInBounds_toArray, List.set_cons_zero, List.set_cons_succ]
              refine wpAnyH_take (i := 15) (oi := { dst := some 83, op := Op.indexAddr 23 (Operand.tmp 80) (Operand.tmp 82), type := 0, pos := "law.go:75", after := #[{ on := 12, ground := Ground.data }, { on := 14, ground := Ground.data }, { on := 11, ground := Ground.guard }], guard := some (11, false) }) (v := ?v161) rfl (by kernel_rfl) (by kernel_rfl) (by kernel_rfl) (fun _ _ _ h => h) (Or.inl ⟨by rfl, ?hy161⟩) (by assumption) ?_
              case hy161 => (intro w hSw; (try dsimp only at hSw); go_simp; try with_reducible rfl)
              try simp only [Act.put, List.setIfInBounds_toArray, List.set_cons_zero, List.set_cons_succ]
              refine wpAnyH_take (i := 16) (oi := { dst := some 84, op := Op.load 9 (Operand.tmp 83), type := 9, pos := "law.go:75", after := #[{ on := 15, ground := Ground.data }, { on := 11, ground := Ground.guard }], guard := some (11, false) }) (v := ?v162) rfl (by kernel_rfl) (by kernel_rfl) (by kernel_rfl) (fun _ _ _ h => h) (Or.inl ⟨by rfl, ?hy162⟩) (by assumption) ?_
              case hy162 => (intro w hSw; (try dsimp only at hSw); go_simp; try with_reducible rfl)
              try simp only [Act.put, List.setIfInBounds_toArray, List.set_cons_zero, List.set_cons_succ]
              refine wpAnyH_take (i := 18) (oi := { dst := some 86, op := Op.move (Operand.tmp 5), type := 23, pos := "law.go:75", after := #[{ on := 11, ground := Ground.guard }], guard := some (11, false) }) (v := ?v163) rfl (by kernel_rfl) (by kernel_rfl) (by kernel_rfl) (fun _ _ _ h => h) (Or.inl ⟨by rfl, ?hy163⟩) (by assumption) ?_
              case hy163 => (intro w hSw; (try dsimp only at hSw); go_simp; try with_reducible rfl)
              try simp only [Act.put, List.setIfInBounds_toArray, List.set_cons_zero, List.set_cons_succ]
              refine wpAnyH_take (i := 19) (oi := { dst := some 87, op := Op.move (Operand.tmp 6), type := 3, pos := "law.go:75", after := #[{ on := 11, ground := Ground.guard }], guard := some (11, false) }) (v := ?v164) rfl (by kernel_rfl) (by kernel_rfl) (by kernel_rfl) (fun _ _ _ h => h) (Or.inl ⟨by rfl, ?hy164⟩) (by assumption) ?_
              case hy164 => (intro w hSw; (try dsimp only at hSw); go_simp; try with_reducible rfl)
              try simp only [Act.put, List.setIfInBounds_toArray, List.set_cons_zero, List.set_cons_succ]
              refine wpAnyH_take (i := 20) (oi := { dst := some 88, op := Op.indexAddr 23 (Operand.tmp 86) (Operand.tmp 87), type := 0, pos := "law.go:75", after := #[{ on := 18, ground := Ground.data }, { on := 19, ground := Ground.data }, { on := 11, ground := Ground.guard }], guard := some (11, false) }) (v := ?v165) rfl (by kernel_rfl) (by kernel_rfl) (by kernel_rfl) (fun _ _ _ h => h) (Or.inl ⟨by rfl, ?hy165⟩) (by assumption) ?_
              case hy165 => (intro w hSw; (try dsimp only at hSw); go_simp; try with_reducible rfl)
              try simp only [Act.put, List.setIfInBounds_toArray, List.set_cons_zero, List.set_cons_succ]
              refine wpAnyH_take (i := 21) (oi := { dst := some 89, op := Op.load 9 (Operand.tmp 88), type := 9, pos := "law.go:75", after := #[{ on := 20, ground := Ground.data }, { on := 11, ground := Ground.guard }], guard := some (11, false) }) (v := ?v166) rfl (by kernel_rfl) (by kernel_rfl) (by kernel_rfl) (fun _ _ _ h => h) (Or.inl ⟨by rfl, ?hy166⟩) (by assumption) ?_
              case hy166 => (intro w hSw; (try dsimp only at hSw); go_simp; try with_reducible rfl)
              try simp only [Act.put, List.setIfInBounds_toArray, List.set_cons_zero, List.set_cons_succ]
              refine wpAnyH_ready (rs := [17]) (by kernel_rfl) (by simp) ?_
              refine AllReadyH.cons (o := { dst := some 85, op := Op.call { callee := Callee.value (Operand.func 17), args := #[Operand.tmp 84], argTypes := #[9] }, type := 9, pos := "law.go:75", after := #[{ on := 16, ground := Ground.data }, { on := 11, ground := Ground.chain }, { on := 11, ground := Ground.guard }], guard := some (11, false) }) rfl (fun K hK => ?_) AllReadyH.nil
              rw [if_pos (by rfl)]
              go_wp2_with (go_at_call 17; refine (up_any _ _ (HG.out.below acc) (by assumption)).mono ?_; rintro e w9 ⟨rfl, hb⟩; (first | rw [HU.out] | rw [HV.out]); replace acc := acc.trans (hb.mono acc.size); replace acc1 := acc1.trans (hb.mono acc1.size); clear hb)
              refine hK.out _ _ (KP.out _ acc1) (fun hHeld => ?_)
              clear hK K
              try simp only [Act.put, List.setIfInBounds_toArray, List.set_cons_zero, List.set_cons_succ]
              refine wpAnyH_take (i := 22) (oi := { dst := some 90, op := Op.binOp BinOp.eql 9 (Operand.tmp 85) (Operand.tmp 89) 9, type := 4, pos := "law.go:75", after := #[{ on := 17, ground := Ground.data }, { on := 21, ground := Ground.data }, { on := 11, ground := Ground.guard }], guard := some (11, false) }) (v := ?v167) rfl (by kernel_rfl) (by kernel_rfl) (by kernel_rfl) (fun _ _ _ h => h) (Or.inl ⟨by rfl, ?hy167⟩) (by assumption) ?_
              case hy167 => (intro w hSw; (try dsimp only at hSw); go_simp; try with_reducible rfl)
              try simp only [Act.put, List.setIfInBounds_toArray, List.set_cons_zero, List.set_cons_succ]
              refine wpAnyH_take (i := 23) (oi := { dst := some 91, op := Op.pick (Operand.tmp 79) (Operand.const (Value.bool true)) (Operand.tmp 90), type := 4, pos := "law.go:75", after := #[{ on := 11, ground := Ground.data }, { on := 22, ground := Ground.data }], guard := none }) (v := ?v168) rfl (by kernel_rfl) (by kernel_rfl) (by kernel_rfl) (fun _ _ _ h => h) (Or.inl ⟨by rfl, ?hy168⟩) (by assumption) ?_
              case hy168 => (intro w hSw; (try dsimp only at hSw); go_simp; try with_reducible rfl)
              try simp only [Act.put, List.setIfInBounds_toArray, List.set_cons_zero, List.set_cons_succ]
              refine wpAnyH_take (i := 24) (oi := { dst := some 8, op := Op.assign (Operand.tmp 91), type := 4, pos := "law.go:75", after := #[{ on := 23, ground := Ground.data }, { on := 17, ground := Ground.chain }, { on := 0, ground := Ground.phase }, { on := 1, ground := Ground.phase }, { on := 2, ground := Ground.phase }, { on := 3, ground := Ground.phase }, { on := 4, ground := Ground.phase }, { on := 5, ground := Ground.phase }, { on := 6, ground := Ground.phase }, { on := 7, ground := Ground.phase }, { on := 8, ground := Ground.phase }, { on := 9, ground := Ground.phase }, { on := 10, ground := Ground.phase }, { on := 11, ground := Ground.phase }, { on := 12, ground := Ground.phase }, { on := 13, ground := Ground.phase }, { on := 14, ground := Ground.phase }, { on := 15, ground := Ground.phase }, { on := 16, ground := Ground.phase }, { on := 17, ground := Ground.phase }, { on := 18, ground := Ground.phase }, { on := 19, ground := Ground.phase }, { on := 20, ground := Ground.phase }, { on := 21, ground := Ground.phase }, { on := 22, ground := Ground.phase }, { on := 23, ground := Ground.phase }], guard := none }) (v := ?v169) rfl (by kernel_rfl) (by kernel_rfl) (by kernel_rfl) (fun _ _ _ h => h) (Or.inl ⟨by rfl, ?hy169⟩) (by assumption) ?_
              case hy169 => (intro w hSw; (try dsimp only at hSw); go_simp; try with_reducible rfl)
              try simp only [Act.put, List.setIfInBounds_toArray, List.set_cons_zero, List.set_cons_succ]
              refine wpAnyH_done (by kernel_rfl) ?_ _
              obtain ⟨kx2, kp2⟩ := KP.out _ acc1
              try have e3 := HE3.out
              try have e4 := HE4.out
              go_wp2_with (go_at_call 17; refine (up_any _ _ (HG.out.below acc) (by assumption)).mono ?_; rintro e w9 ⟨rfl, hb⟩; (first | rw [HU.out] | rw [HV.out]); replace acc := acc.trans (hb.mono acc.size); replace acc1 := acc1.trans (hb.mono acc1.size); obtain ⟨kx2, kp2⟩ := KP.out _ acc1; clear hb)
              go_roundg (N - (k + 1))
              case measure => omega
              case rel => exact ⟨k + 1, by omega, by omega, by go_num, acc1⟩
    · have hiN : i = N := by omega
      subst hiN
      have acc := HALL.out.trans (HB.out.mono hgrow)
      go_wp2_with (go_at_call 14; refine (known_any _ (HG.out.below acc)).mono ?_; rintro e w8 ⟨rfl, hb8⟩)
      go_ret
      exact ⟨rfl, acc.trans (hb8.mono acc.size)⟩

theorem nameWay_walk (a b : ByteArray) (ha : a.size ≤ 140737488351232) (hb : b.size ≤ 140737488351232) (w : World) (hg : Glob w) :
    Calls Tryd.prog 5 #[.string a, .string b] w fun e w' => e = .returned (.bool true) ∧ Below w.heap.size w w' := by
  by_cases hl : 200 < a.size + b.size
  · exact nameWay_not w a b ha hb (.inl hl)
  · cases hx : isR a.data.toList
    · exact nameWay_not w a b ha hb (.inr (.inl hx))
    · cases hy : isR b.data.toList
      · exact nameWay_not w a b ha hb (.inr (.inr (.inl hy)))
      · by_cases hne : a.data.toList = b.data.toList
        · exact nameWay_not w a b ha hb (.inr (.inr (.inr hne)))
        · exact nameWay_is w hg a b hl hx hy hne
end Go.Proofs.YtnifihnlmanpkaaDoor
