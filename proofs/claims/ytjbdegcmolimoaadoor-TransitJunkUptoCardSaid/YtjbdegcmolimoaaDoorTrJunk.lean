/-
  TransitJunk: the walk of the law.
-/
import Derived.Test.YtjbdegcmolimoaaDoorTrFull
set_option linter.unusedVariables false
set_option linter.unusedSimpArgs false
namespace Go.Proofs.YtjbdegcmolimoaaDoor
open Go Go.RowKit Go.Lib Go.Shelf

/-- at & 65535: some number that is small. -/
theorem and_small (k : Int) : ∃ j : Nat, j ≤ 65535 ∧ Op.intBits .and .i64 k 65535 = pure (.int .i64 (j : Int)) := by
  refine ⟨(BitVec.ofInt 64 k &&& BitVec.ofInt 64 65535).toNat, ?_, ?_⟩
  · rw [BitVec.toNat_and]
    exact Nat.le_trans Nat.and_le_right (by decide)
  · have hle : (BitVec.ofInt 64 k &&& BitVec.ofInt 64 65535).toNat ≤ 65535 := by
      rw [BitVec.toNat_and]
      exact Nat.le_trans Nat.and_le_right (by decide)
    show (pure (.int .i64 (IntKind.i64.wrap ((BitVec.ofInt 64 k &&& BitVec.ofInt 64 65535).toNat : Int))) : Sem Value) = _
    rw [show IntKind.i64.wrap ((BitVec.ofInt 64 k &&& BitVec.ofInt 64 65535).toNat : Int) = ((BitVec.ofInt 64 k &&& BitVec.ofInt 64 65535).toNat : Int) by rw [IntKind.wrap_i64]; omega]

theorem wp_convert {P : Program} {o : Oper} {a : Act} {K : Act → World → Prop} {Q : Exit → Act → World → Prop} {w : World} (s d : TypeId) (x : Operand) (ho : o.op = .convert s d x) (v : Value) (hx : a.eval x = v) (r : Value) (hrun : (convert s d v).run P w = .ok r w)
    (h : K (a.put o.dst r) w) : o.wp P a w K Q := by
  unfold Oper.wp
  simp only [execOp, ho, hx, hrun, Sem.run_bind, Sem.run_pure, Result.andThen_ok]
  exact h

set_option maxHeartbeats 4000000 in
theorem transitJunk_not (w : World) (ad : Option Addr) (n c : Nat) (l : List Str) (y : UInt8) (k : Int) (hA : At w ad n l) (hk : bulk l ≤ 1048576)
    (hl : (onceOf l).2 = false ∨ 600 < bulk l ∨ (onceOf l).1.length = 0 ∨ (65 ≤ y.toNat ∧ y.toNat ≤ 90) ∨ y.toNat = 46 ∨ y.toNat = 47 ∨ y.toNat = 44 ∨ y.toNat = 32) :
    Calls Tryd.prog 9 #[.slice ad n c, .int .u8 (y.toNat : Int), .int .i64 k] w fun e w' => e = .returned (.bool true) ∧ Below w.heap.size w w' := by
  have acc : Below w.heap.size w w := Below.refl _ _
  have HA := Lib.hid hA
  have hn : n ≤ 1048576 := by have := bulk_len l; have := hA.len; omega
  have HSZ := Lib.hid (show ∀ x ∈ l, x.length < 1100000 from fun x hx => by have := bulk_mem hx; omega)
  obtain ⟨m, ok, hon⟩ : ∃ m ok, onceOf l = (m, ok) := ⟨_, _, rfl⟩
  rw [hon] at hl
  have HON := Lib.hid hon
  clear hA hon
  cases ok with
  | false =>
    clear hl
    go_enter Tryd.func9, Tryd.ntmps9
    go_wp2_with (go_at_call 16; refine (once_any _ _ _ _ l HA.out (by omega) HSZ.out).mono ?_; rintro e w9 ⟨ado, co, rfl, ho, hb⟩; rw [HON.out] at ho ⊢; replace acc := acc.trans (hb.mono acc.size); clear hb)
    all_goals (go_ret; exact ⟨rfl, acc⟩)
  | true =>
    by_cases h6 : 600 < bulk l
    · have hd := Lib.hid (decide_eq_true h6)
      clear hl h6
      go_enter Tryd.func9, Tryd.ntmps9
      go_wp2_with (first
        | (go_at_call 16; refine (once_any _ _ _ _ l HA.out (by omega) HSZ.out).mono ?_; rintro e w9 ⟨ado, co, rfl, ho, hb⟩; rw [HON.out] at ho ⊢; replace acc := acc.trans (hb.mono acc.size); clear hb)
        | (go_at_call 13; refine (large_any _ _ _ _ l (HA.out.below acc) (by omega)).mono ?_; rintro e w2 ⟨rfl, h2⟩; replace h2 := h2.symm; subst h2; rw [hd.out]))
      all_goals (go_ret; exact ⟨rfl, acc⟩)
    · have hd := Lib.hid (decide_eq_false h6)
      by_cases h0 : m.length = 0
      · have h0z : (m.length : Int) = 0 := by omega
        clear hl h6 h0
        go_enter Tryd.func9, Tryd.ntmps9
        go_wp2_with (first
          | (go_at_call 16; refine (once_any _ _ _ _ l HA.out (by omega) HSZ.out).mono ?_; rintro e w9 ⟨ado, co, rfl, ho, hb⟩; rw [HON.out] at ho ⊢; replace acc := acc.trans (hb.mono acc.size); clear hb)
          | (go_at_call 13; refine (large_any _ _ _ _ l (HA.out.below acc) (by omega)).mono ?_; rintro e w2 ⟨rfl, h2⟩; replace h2 := h2.symm; subst h2; rw [hd.out]))
        all_goals (go_ret; exact ⟨rfl, acc⟩)
      · have h0z : (m.length : Int) ≠ 0 := by omega
        by_cases hy : 65 ≤ y.toNat ∧ y.toNat ≤ 90
        · have hy1 : (65 : Int) ≤ (y.toNat : Int) := by omega
          have hy2 : (y.toNat : Int) ≤ 90 := by omega
          clear hl h6 h0 hy
          go_enter Tryd.func9, Tryd.ntmps9
          go_wp2_with (first
            | (go_at_call 16; refine (once_any _ _ _ _ l HA.out (by omega) HSZ.out).mono ?_; rintro e w9 ⟨ado, co, rfl, ho, hb⟩; rw [HON.out] at ho ⊢; replace acc := acc.trans (hb.mono acc.size); clear hb)
            | (go_at_call 13; refine (large_any _ _ _ _ l (HA.out.below acc) (by omega)).mono ?_; rintro e w2 ⟨rfl, h2⟩; replace h2 := h2.symm; subst h2; rw [hd.out]))
          all_goals (go_ret; exact ⟨rfl, acc⟩)
        · have hc : (y.toNat : Int) = 46 ∨ (y.toNat : Int) = 47 ∨ (y.toNat : Int) = 44 ∨ (y.toNat : Int) = 32 := by
            rcases hl with h | h | h | h | h | h | h | h
            · cases h
            · exact absurd h h6
            · exact absurd h h0
            · exact absurd h hy
            all_goals omega
          clear hl h6 h0 hy
          rcases hc with hc | hc | hc | hc
          · skip
            go_enter Tryd.func9, Tryd.ntmps9
            go_wp2_with (first
              | (go_at_call 16; refine (once_any _ _ _ _ l HA.out (by omega) HSZ.out).mono ?_; rintro e w9 ⟨ado, co, rfl, ho, hb⟩; rw [HON.out] at ho ⊢; replace acc := acc.trans (hb.mono acc.size); clear hb)
              | (go_at_call 13; refine (large_any _ _ _ _ l (HA.out.below acc) (by omega)).mono ?_; rintro e w2 ⟨rfl, h2⟩; replace h2 := h2.symm; subst h2; rw [hd.out]))
            all_goals (go_ret; exact ⟨rfl, acc⟩)
          · skip
            go_enter Tryd.func9, Tryd.ntmps9
            go_wp2_with (first
              | (go_at_call 16; refine (once_any _ _ _ _ l HA.out (by omega) HSZ.out).mono ?_; rintro e w9 ⟨ado, co, rfl, ho, hb⟩; rw [HON.out] at ho ⊢; replace acc := acc.trans (hb.mono acc.size); clear hb)
              | (go_at_call 13; refine (large_any _ _ _ _ l (HA.out.below acc) (by omega)).mono ?_; rintro e w2 ⟨rfl, h2⟩; replace h2 := h2.symm; subst h2; rw [hd.out]))
            all_goals (go_ret; exact ⟨rfl, acc⟩)
          · skip
            go_enter Tryd.func9, Tryd.ntmps9
            go_wp2_with (first
              | (go_at_call 16; refine (once_any _ _ _ _ l HA.out (by omega) HSZ.out).mono ?_; rintro e w9 ⟨ado, co, rfl, ho, hb⟩; rw [HON.out] at ho ⊢; replace acc := acc.trans (hb.mono acc.size); clear hb)
              | (go_at_call 13; refine (large_any _ _ _ _ l (HA.out.below acc) (by omega)).mono ?_; rintro e w2 ⟨rfl, h2⟩; replace h2 := h2.symm; subst h2; rw [hd.out]))
            all_goals (go_ret; exact ⟨rfl, acc⟩)
          · skip
            go_enter Tryd.func9, Tryd.ntmps9
            go_wp2_with (first
              | (go_at_call 16; refine (once_any _ _ _ _ l HA.out (by omega) HSZ.out).mono ?_; rintro e w9 ⟨ado, co, rfl, ho, hb⟩; rw [HON.out] at ho ⊢; replace acc := acc.trans (hb.mono acc.size); clear hb)
              | (go_at_call 13; refine (large_any _ _ _ _ l (HA.out.below acc) (by omega)).mono ?_; rintro e w2 ⟨rfl, h2⟩; replace h2 := h2.symm; subst h2; rw [hd.out]))
            all_goals (go_ret; exact ⟨rfl, acc⟩)

set_option maxHeartbeats 4000000 in
set_option maxRecDepth 100000 in
theorem transitJunk_is (w : World) (hg : Glob w) (ad : Option Addr) (n c : Nat) (l : List Str) (y : UInt8) (k : Int) (hA : At w ad n l) (hk : bulk l ≤ 1048576)
    (ho : (onceOf l).2 = true) (h6 : ¬ 600 < bulk l) (h0 : (onceOf l).1.length ≠ 0) (hy : y.toNat < 65 ∨ 90 < y.toNat) (hy2 : y.toNat ≠ 46) (hy3 : y.toNat ≠ 47) (hy4 : y.toNat ≠ 44) (hy5 : y.toNat ≠ 32) :
    Calls Tryd.prog 9 #[.slice ad n c, .int .u8 (y.toNat : Int), .int .i64 k] w fun e w' => e = .returned (.bool true) ∧ Below w.heap.size w w' := by
  have acc : Below w.heap.size w w := Below.refl _ _
  have HA := Lib.hid hA
  have HG := Lib.hid hg
  have hn : n ≤ 1048576 := by have := bulk_len l; have := hA.len; omega
  have HSZ := Lib.hid (show ∀ x ∈ l, x.length < 1100000 from fun x hx => by have := bulk_mem hx; omega)
  have hd := Lib.hid (decide_eq_false h6)
  obtain ⟨_, _, hmR, hmN, hm8⟩ := once_ok ho
  obtain ⟨m, ok, hon⟩ : ∃ m ok, onceOf l = (m, ok) := ⟨_, _, rfl⟩
  rw [hon] at ho hmR hmN hm8 h0
  simp only at ho hmR hmN hm8 h0
  subst ho
  have HON := Lib.hid hon
  have hC := compress_ok hmR hm8
  have hcl := compress_len (l := m)
  rw [hC] at hcl
  simp only at hcl
  have hne : ∀ b : Nat, b < 256 → y.toNat ≠ b → y ≠ UInt8.ofNat b := fun b hb h e => h (by rw [e, UInt8.toNat_ofNat']; omega)
  have hJ := fun j => junk (k := j) (c := y) hmR hmN hm8 (fun e => h0 (by rw [e]; rfl)) hy (hne 46 (by omega) hy2) (hne 47 (by omega) hy3) (hne 32 (by omega) hy5) (hne 44 (by omega) hy4)
  obtain ⟨t, ht⟩ : ∃ t : ByteArray, t = ⟨(joinOn 44 (shorts m)).toArray⟩ := ⟨_, rfl⟩
  have htd : t.data.toList = joinOn 44 (shorts m) := by rw [ht]
  have st : t.size ≤ 312 := by have e : t.data.toList.length = t.size := rfl; rw [htd] at e; omega
  have st1 : 1 ≤ t.size := by
    have e : t.data.toList.length = t.size := rfl
    rcases Nat.eq_zero_or_pos t.size with h | h
    · exfalso
      rw [h, htd, List.length_eq_zero_iff] at e
      have hs0 : shorts m ≠ [] := fun e2 => h0 (by rw [← shorts_len, e2]; rfl)
      have h1 := splitOn_joinOn 44 (shorts m) hs0 (fun x hx => (shorts_mem hmR x hx).2)
      rw [e] at h1
      have h2 : ([] : Str) ∈ shorts m := by rw [← h1]; simp [splitOn]
      exact (shorts_mem hmR [] h2).1 rfl
    · exact h
  rw [← htd] at hJ hC
  have E2 := Lib.hid hC
  have HMS := Lib.hid (show ∀ x ∈ m, x.length < 90000 from fun x hx => by have := isR_short' (hmR x hx); omega)
  obtain ⟨j0, hj0, hand⟩ := and_small k
  obtain ⟨j, hj⟩ : ∃ j, j = j0 % t.size := ⟨_, rfl⟩
  have hjt : j < t.size := by rw [hj]; exact Nat.mod_lt _ (by omega)
  have hmod : (j0 : Int).tmod (t.size : Int) = (j : Int) := by rw [hj]; rfl
  have hjz : (j : Int) ≤ (t.size : Int) := by omega
  have hj00 : (0 : Int) ≤ (j : Int) := by omega
  obtain ⟨p, hp⟩ : ∃ p : ByteArray, t.extract 0 j = p := ⟨_, rfl⟩
  obtain ⟨q, hq⟩ : ∃ q : ByteArray, t.extract j t.size = q := ⟨_, rfl⟩
  obtain ⟨u, hu⟩ : ∃ u : ByteArray, (p ++ (⟨#[y]⟩ : ByteArray)) ++ q = u := ⟨_, rfl⟩
  have hpd : p.data.toList = t.data.toList.take j := by rw [← hp, ext_eq]; simp
  have hqd : q.data.toList = t.data.toList.drop j := by rw [← hq, Lib.extract_to_end]
  have sp : p.size ≤ 312 := by rw [← hp, ByteArray.size_extract]; omega
  have sq : q.size ≤ 312 := by rw [← hq, ByteArray.size_extract]; omega
  have hud : u.data.toList = t.data.toList.take j ++ y :: t.data.toList.drop j := by
    rw [← hu, cat_data, cat_data, hpd, hqd]
    simp
  have su : u.size < 70000 := by
    have : u.size = p.size + 1 + q.size := by rw [← hu, cat_size, cat_size]; rfl
    omega
  have hE := hJ j
  rw [← hud] at hE
  have hE1 : expandOf u.data.toList (⟨#[65]⟩ : ByteArray).data.toList (⟨#[66]⟩ : ByteArray).data.toList = ([], 2) := hE
  have E1 := Lib.hid hE1
  have h0z : (m.length : Int) ≠ 0 := by omega
  have stz : (t.size : Int) ≠ 0 := by omega
  have stz1 : (0 : Int) < (t.size : Int) := by omega
  have z46 : (y.toNat : Int) ≠ 46 := by omega
  have z47 : (y.toNat : Int) ≠ 47 := by omega
  have z44 : (y.toNat : Int) ≠ 44 := by omega
  have z32 : (y.toNat : Int) ≠ 32 := by omega
  have hpy : (p ++ (⟨#[y]⟩ : ByteArray)).size = p.size + 1 := by rw [cat_size]; rfl
  have h0b : ((m.length : Int) == 0) = false := by rw [beq_eq_false_iff_ne]; omega
  have stb : ((t.size : Int) == 0) = false := by rw [beq_eq_false_iff_ne]; omega
  have b46 : ((y.toNat : Int) == 46) = false := by rw [beq_eq_false_iff_ne]; omega
  have b47 : ((y.toNat : Int) == 47) = false := by rw [beq_eq_false_iff_ne]; omega
  have b44 : ((y.toNat : Int) == 44) = false := by rw [beq_eq_false_iff_ne]; omega
  have b32 : ((y.toNat : Int) == 32) = false := by rw [beq_eq_false_iff_ne]; omega
  have hor : ¬ (65 : Int) ≤ (y.toNat : Int) ∨ (¬ (y.toNat : Int) ≤ 90 ∧ (65 : Int) ≤ (y.toNat : Int)) := by omega
  have HPY := Lib.hid hpy
  clear hA hon hg h6 h0 hC hcl ht htd hmR hmN hJ hne hpd hqd hud hE hE1 hy hy2 hy3 hy4 hy5 hj hpy
  rcases hor with hor | ⟨hor, hor2⟩
  · go_enter Tryd.func9, Tryd.ntmps9
    go_wp2_with (first
      | (go_at_call 16; refine (once_any _ _ _ _ l HA.out (by omega) HSZ.out).mono ?_; rintro e w9 ⟨ado, co, rfl, ho, hb⟩; rw [HON.out] at ho ⊢; replace acc := acc.trans (hb.mono acc.size); clear hb)
      | (go_at_call 13; refine (large_any _ _ _ _ l (HA.out.below acc) (by omega)).mono ?_; rintro e w2 ⟨rfl, h2⟩; replace h2 := h2.symm; subst h2; rw [hd.out])
      | (go_at_call 21; refine (compress_any _ (HG.out.below acc) _ _ _ m (At.owns ho) (by omega) HMS.out).mono ?_; rintro e w5 ⟨rfl, hb⟩; rw [E2.out]; clear ho; replace acc := acc.trans (hb.mono acc.size); clear hb))
    have acc1 := acc.drew
    have hb1 : (convert 39 9 (.slice (some ⟨w5.heap.size, 0, none⟩) 1 1)).run Tryd.prog (w5.alloc (.cells #[.int .u8 (y.toNat : Int)] 5)).drew = .ok (.string ⟨#[y]⟩) (w5.alloc (.cells #[.int .u8 (y.toNat : Int)] 5)).drew := bytes_one w5.drew y
    refine wp_region_held_drew (S := fun _ => True) (by kernel_rfl) trivial (fun hHeld => ?_)
    refine wpAnyH_take (i := 0) (oi := { dst := some 72, op := Op.move (Operand.tmp 9), type := 9, pos := "more.go:76", after := #[], guard := none }) (v := ?v1) rfl (by kernel_rfl) (by kernel_rfl) (by kernel_rfl) (fun _ _ _ h => h) (Or.inl ⟨by rfl, ?hy1⟩) (by assumption) ?_
    case hy1 => (intro w hSw; (try dsimp only at hSw); go_simp; try with_reducible rfl)
    try simp only [Act.put, List.setIfInBounds_toArray, List.set_cons_zero, List.set_cons_succ]
    refine wpAnyH_take (i := 1) (oi := { dst := some 73, op := Op.move (Operand.tmp 11), type := 3, pos := "more.go:76", after := #[], guard := none }) (v := ?v2) rfl (by kernel_rfl) (by kernel_rfl) (by kernel_rfl) (fun _ _ _ h => h) (Or.inl ⟨by rfl, ?hy2⟩) (by assumption) ?_
    case hy2 => (intro w hSw; (try dsimp only at hSw); go_simp; try with_reducible rfl)
    try simp only [Act.put, List.setIfInBounds_toArray, List.set_cons_zero, List.set_cons_succ]
    refine wpAnyH_take (i := 2) (oi := { dst := some 74, op := Op.slice 9 (Operand.tmp 72) none (some (Operand.tmp 73)) none, type := 9, pos := "more.go:76", after := #[{ on := 0, ground := Ground.data }, { on := 1, ground := Ground.data }], guard := none }) (v := ?v3) rfl (by kernel_rfl) (by kernel_rfl) (by kernel_rfl) (fun _ _ _ h => h) (Or.inl ⟨by rfl, ?hy3⟩) (by assumption) ?_
    case hy3 => (intro w hSw; (try dsimp only at hSw); go_simp; try with_reducible rfl)
    try simp only [Act.put, List.setIfInBounds_toArray, List.set_cons_zero, List.set_cons_succ]
    refine wpAnyH_take (i := 3) (oi := { dst := some 75, op := Op.move (Operand.tmp 1), type := 5, pos := "more.go:76", after := #[], guard := none }) (v := ?v4) rfl (by kernel_rfl) (by kernel_rfl) (by kernel_rfl) (fun _ _ _ h => h) (Or.inl ⟨by rfl, ?hy4⟩) (by assumption) ?_
    case hy4 => (intro w hSw; (try dsimp only at hSw); go_simp; try with_reducible rfl)
    try simp only [Act.put, List.setIfInBounds_toArray, List.set_cons_zero, List.set_cons_succ]
    refine wpAnyH_take (i := 7) (oi := { dst := some 79, op := Op.move (Operand.tmp 9), type := 9, pos := "more.go:76", after := #[], guard := none }) (v := ?v5) rfl (by kernel_rfl) (by kernel_rfl) (by kernel_rfl) (fun _ _ _ h => h) (Or.inl ⟨by rfl, ?hy5⟩) (by assumption) ?_
    case hy5 => (intro w hSw; (try dsimp only at hSw); go_simp; try with_reducible rfl)
    try simp only [Act.put, List.setIfInBounds_toArray, List.set_cons_zero, List.set_cons_succ]
    refine wpAnyH_take (i := 8) (oi := { dst := some 80, op := Op.move (Operand.tmp 11), type := 3, pos := "more.go:76", after := #[], guard := none }) (v := ?v6) rfl (by kernel_rfl) (by kernel_rfl) (by kernel_rfl) (fun _ _ _ h => h) (Or.inl ⟨by rfl, ?hy6⟩) (by assumption) ?_
    case hy6 => (intro w hSw; (try dsimp only at hSw); go_simp; try with_reducible rfl)
    try simp only [Act.put, List.setIfInBounds_toArray, List.set_cons_zero, List.set_cons_succ]
    refine wpAnyH_take (i := 9) (oi := { dst := some 81, op := Op.slice 9 (Operand.tmp 79) (some (Operand.tmp 80)) none none, type := 9, pos := "more.go:76", after := #[{ on := 7, ground := Ground.data }, { on := 8, ground := Ground.data }], guard := none }) (v := ?v7) rfl (by kernel_rfl) (by kernel_rfl) (by kernel_rfl) (fun _ _ _ h => h) (Or.inl ⟨by rfl, ?hy7⟩) (by assumption) ?_
    case hy7 => (intro w hSw; (try dsimp only at hSw); go_simp; try with_reducible rfl)
    try simp only [Act.put, List.setIfInBounds_toArray, List.set_cons_zero, List.set_cons_succ]
    refine wpAnyH_ready (rs := [4]) (by kernel_rfl) (by simp) ?_
    refine AllReadyH.cons (o := { dst := some 76, op := Op.buildSlice 39 1 #[(0, Operand.tmp 75)], type := 39, pos := "more.go:76", after := #[{ on := 3, ground := Ground.data }], guard := none }) rfl (fun K hK => ?_) AllReadyH.nil
    go_wp2_with fail
    refine hK.out _ _ trivial (fun hHeld => ?_)
    clear hK K
    try simp only [Act.put, List.setIfInBounds_toArray, List.set_cons_zero, List.set_cons_succ]
    refine wpAnyH_ready (rs := [5]) (by kernel_rfl) (by simp) ?_
    refine AllReadyH.cons (o := { dst := some 77, op := Op.convert 39 9 (Operand.tmp 76), type := 9, pos := "more.go:76", after := #[{ on := 4, ground := Ground.data }], guard := none }) rfl (fun K hK => ?_) AllReadyH.nil
    rw [if_pos (by rfl)]
    refine wp_convert _ _ _ rfl _ rfl _ hb1 ?_
    clear hb1
    refine hK.out _ _ trivial (fun hHeld => ?_)
    clear hK K
    try simp only [Act.put, List.setIfInBounds_toArray, List.set_cons_zero, List.set_cons_succ]
    refine wpAnyH_take (i := 6) (oi := { dst := some 78, op := Op.binOp BinOp.add 9 (Operand.tmp 74) (Operand.tmp 77) 9, type := 9, pos := "more.go:76", after := #[{ on := 2, ground := Ground.data }, { on := 5, ground := Ground.data }], guard := none }) (v := ?v8) rfl (by kernel_rfl) (by kernel_rfl) (by kernel_rfl) (fun _ _ _ h => h) (Or.inl ⟨by rfl, ?hy8⟩) (by assumption) ?_
    case hy8 => (intro w hSw; (try dsimp only at hSw); go_simp; (try rw [if_neg (by first | omega | (rw [HPY.out]; omega))]); try with_reducible rfl)
    try simp only [Act.put, List.setIfInBounds_toArray, List.set_cons_zero, List.set_cons_succ]
    refine wpAnyH_take (i := 10) (oi := { dst := some 82, op := Op.binOp BinOp.add 9 (Operand.tmp 78) (Operand.tmp 81) 9, type := 9, pos := "more.go:76", after := #[{ on := 6, ground := Ground.data }, { on := 9, ground := Ground.data }], guard := none }) (v := ?v9) rfl (by kernel_rfl) (by kernel_rfl) (by kernel_rfl) (fun _ _ _ h => h) (Or.inl ⟨by rfl, ?hy9⟩) (by assumption) ?_
    case hy9 => (intro w hSw; (try dsimp only at hSw); go_simp; (try rw [if_neg (by first | omega | (rw [HPY.out]; omega))]); try with_reducible rfl)
    try simp only [Act.put, List.setIfInBounds_toArray, List.set_cons_zero, List.set_cons_succ]
    have accd : Below w.heap.size w (w5.alloc (.cells #[.int .u8 (y.toNat : Int)] 5)).drew := (acc.alloc acc.size _).drew
    generalize (w5.alloc (.cells #[.int .u8 (y.toNat : Int)] 5)).drew = W at accd ⊢
    clear hp hq hu hand hmod hjz hj00 h0z stz stz1 z46 z47 z44 z32 h0b stb b46 b47 b44 b32
    refine wpAnyH_ready (rs := [11]) (by kernel_rfl) (by simp) ?_
    refine AllReadyH.cons (o := { dst := some 83, op := Op.call { callee := Callee.value (Operand.func 17), args := #[Operand.tmp 82, Operand.const (Value.string { data := #[65] }), Operand.const (Value.string { data := #[66] })], argTypes := #[9, 9, 9] }, type := 29, pos := "more.go:76", after := #[{ on := 10, ground := Ground.data }], guard := none }) rfl (fun K hK => ?_) AllReadyH.nil
    rw [if_pos (by rfl)]
    go_simp
    refine (expand_any _ _ _ _ (HG.out.below accd) (by assumption) (by decide) (by decide)).mono ?_
    rintro e w6 ⟨ade, ce, rfl, hox, hb⟩
    rw [E1.out]
    clear hox
    replace acc := accd.trans (hb.mono accd.size)
    clear hb
    dsimp only
    refine hK.out _ _ trivial (fun hHeld => ?_)
    clear hK K
    try simp only [Act.put, List.setIfInBounds_toArray, List.set_cons_zero, List.set_cons_succ]
    refine wpAnyH_take (i := 12) (oi := { dst := some 71, op := Op.move (Operand.tmp 83), type := 29, pos := "more.go:76", after := #[{ on := 11, ground := Ground.data }], guard := none }) (v := ?v10) rfl (by kernel_rfl) (by kernel_rfl) (by kernel_rfl) (fun _ _ _ h => h) (Or.inl ⟨by rfl, ?hy10⟩) (by assumption) ?_
    case hy10 => (intro w hSw; (try dsimp only at hSw); go_simp; try with_reducible rfl)
    try simp only [Act.put, List.setIfInBounds_toArray, List.set_cons_zero, List.set_cons_succ]
    refine wpAnyH_take (i := 13) (oi := { dst := some 84, op := Op.extract (Operand.tmp 71) 0, type := 24, pos := "more.go:76", after := #[{ on := 12, ground := Ground.data }], guard := none }) (v := ?v11) rfl (by kernel_rfl) (by kernel_rfl) (by kernel_rfl) (fun _ _ _ h => h) (Or.inl ⟨by rfl, ?hy11⟩) (by assumption) ?_
    case hy11 => (intro w hSw; (try dsimp only at hSw); go_simp; try with_reducible rfl)
    try simp only [Act.put, List.setIfInBounds_toArray, List.set_cons_zero, List.set_cons_succ]
    refine wpAnyH_take (i := 14) (oi := { dst := some 85, op := Op.extract (Operand.tmp 71) 1, type := 28, pos := "more.go:76", after := #[{ on := 12, ground := Ground.data }, { on := 15, ground := Ground.gcOnly Departure.lateStores }], guard := none }) (v := ?v12) rfl (by kernel_rfl) (by kernel_rfl) (by kernel_rfl) (fun _ _ _ h => h) (Or.inl ⟨by rfl, ?hy12⟩) (by assumption) ?_
    case hy12 => (intro w hSw; (try dsimp only at hSw); go_simp; try with_reducible rfl)
    try simp only [Act.put, List.setIfInBounds_toArray, List.set_cons_zero, List.set_cons_succ]
    refine wpAnyH_take (i := 15) (oi := { dst := some 12, op := Op.assign (Operand.tmp 84), type := 24, pos := "more.go:76", after := #[{ on := 13, ground := Ground.data }, { on := 11, ground := Ground.chain }, { on := 0, ground := Ground.phase }, { on := 1, ground := Ground.phase }, { on := 2, ground := Ground.phase }, { on := 3, ground := Ground.phase }, { on := 4, ground := Ground.phase }, { on := 5, ground := Ground.phase }, { on := 6, ground := Ground.phase }, { on := 7, ground := Ground.phase }, { on := 8, ground := Ground.phase }, { on := 9, ground := Ground.phase }, { on := 10, ground := Ground.phase }, { on := 11, ground := Ground.phase }, { on := 12, ground := Ground.phase }, { on := 13, ground := Ground.phase }, { on := 14, ground := Ground.textOnly Departure.lateStores }], guard := none }) (v := ?v13) rfl (by kernel_rfl) (by kernel_rfl) (by kernel_rfl) (fun _ _ _ h => h) (Or.inl ⟨by rfl, ?hy13⟩) (by assumption) ?_
    case hy13 => (intro w hSw; (try dsimp only at hSw); go_simp; try with_reducible rfl)
    try simp only [Act.put, List.setIfInBounds_toArray, List.set_cons_zero, List.set_cons_succ]
    refine wpAnyH_take (i := 16) (oi := { dst := some 13, op := Op.assign (Operand.tmp 85), type := 28, pos := "more.go:76", after := #[{ on := 14, ground := Ground.data }, { on := 15, ground := Ground.chain }, { on := 0, ground := Ground.phase }, { on := 1, ground := Ground.phase }, { on := 2, ground := Ground.phase }, { on := 3, ground := Ground.phase }, { on := 4, ground := Ground.phase }, { on := 5, ground := Ground.phase }, { on := 6, ground := Ground.phase }, { on := 7, ground := Ground.phase }, { on := 8, ground := Ground.phase }, { on := 9, ground := Ground.phase }, { on := 10, ground := Ground.phase }, { on := 11, ground := Ground.phase }, { on := 12, ground := Ground.phase }, { on := 13, ground := Ground.phase }, { on := 14, ground := Ground.phase }, { on := 15, ground := Ground.phase }], guard := none }) (v := ?v14) rfl (by kernel_rfl) (by kernel_rfl) (by kernel_rfl) (fun _ _ _ h => h) (Or.inl ⟨by rfl, ?hy14⟩) (by assumption) ?_
    case hy14 => (intro w hSw; (try dsimp only at hSw); go_simp; try with_reducible rfl)
    try simp only [Act.put, List.setIfInBounds_toArray, List.set_cons_zero, List.set_cons_succ]
    refine wpAnyH_done (by kernel_rfl) ?_ _
    go_wp2_with (go_at_call 18; refine (known_any _ (HG.out.below acc)).mono ?_; rintro e w7 ⟨rfl, hb⟩; replace acc := acc.trans (hb.mono acc.size); clear hb)
    go_ret
    exact ⟨rfl, acc⟩
  · go_enter Tryd.func9, Tryd.ntmps9
    go_wp2_with (first
      | (go_at_call 16; refine (once_any _ _ _ _ l HA.out (by omega) HSZ.out).mono ?_; rintro e w9 ⟨ado, co, rfl, ho, hb⟩; rw [HON.out] at ho ⊢; replace acc := acc.trans (hb.mono acc.size); clear hb)
      | (go_at_call 13; refine (large_any _ _ _ _ l (HA.out.below acc) (by omega)).mono ?_; rintro e w2 ⟨rfl, h2⟩; replace h2 := h2.symm; subst h2; rw [hd.out])
      | (go_at_call 21; refine (compress_any _ (HG.out.below acc) _ _ _ m (At.owns ho) (by omega) HMS.out).mono ?_; rintro e w5 ⟨rfl, hb⟩; rw [E2.out]; clear ho; replace acc := acc.trans (hb.mono acc.size); clear hb))
    have acc1 := acc.drew
    have hb1 : (convert 39 9 (.slice (some ⟨w5.heap.size, 0, none⟩) 1 1)).run Tryd.prog (w5.alloc (.cells #[.int .u8 (y.toNat : Int)] 5)).drew = .ok (.string ⟨#[y]⟩) (w5.alloc (.cells #[.int .u8 (y.toNat : Int)] 5)).drew := bytes_one w5.drew y
    refine wp_region_held_drew (S := fun _ => True) (by kernel_rfl) trivial (fun hHeld => ?_)
    refine wpAnyH_take (i := 0) (oi := { dst := some 72, op := Op.move (Operand.tmp 9), type := 9, pos := "more.go:76", after := #[], guard := none }) (v := ?v15) rfl (by kernel_rfl) (by kernel_rfl) (by kernel_rfl) (fun _ _ _ h => h) (Or.inl ⟨by rfl, ?hy15⟩) (by assumption) ?_
    case hy15 => (intro w hSw; (try dsimp only at hSw); go_simp; try with_reducible rfl)
    try simp only [Act.put, List.setIfInBounds_toArray, List.set_cons_zero, List.set_cons_succ]
    refine wpAnyH_take (i := 1) (oi := { dst := some 73, op := Op.move (Operand.tmp 11), type := 3, pos := "more.go:76", after := #[], guard := none }) (v := ?v16) rfl (by kernel_rfl) (by kernel_rfl) (by kernel_rfl) (fun _ _ _ h => h) (Or.inl ⟨by rfl, ?hy16⟩) (by assumption) ?_
    case hy16 => (intro w hSw; (try dsimp only at hSw); go_simp; try with_reducible rfl)
    try simp only [Act.put, List.setIfInBounds_toArray, List.set_cons_zero, List.set_cons_succ]
    refine wpAnyH_take (i := 2) (oi := { dst := some 74, op := Op.slice 9 (Operand.tmp 72) none (some (Operand.tmp 73)) none, type := 9, pos := "more.go:76", after := #[{ on := 0, ground := Ground.data }, { on := 1, ground := Ground.data }], guard := none }) (v := ?v17) rfl (by kernel_rfl) (by kernel_rfl) (by kernel_rfl) (fun _ _ _ h => h) (Or.inl ⟨by rfl, ?hy17⟩) (by assumption) ?_
    case hy17 => (intro w hSw; (try dsimp only at hSw); go_simp; try with_reducible rfl)
    try simp only [Act.put, List.setIfInBounds_toArray, List.set_cons_zero, List.set_cons_succ]
    refine wpAnyH_take (i := 3) (oi := { dst := some 75, op := Op.move (Operand.tmp 1), type := 5, pos := "more.go:76", after := #[], guard := none }) (v := ?v18) rfl (by kernel_rfl) (by kernel_rfl) (by kernel_rfl) (fun _ _ _ h => h) (Or.inl ⟨by rfl, ?hy18⟩) (by assumption) ?_
    case hy18 => (intro w hSw; (try dsimp only at hSw); go_simp; try with_reducible rfl)
    try simp only [Act.put, List.setIfInBounds_toArray, List.set_cons_zero, List.set_cons_succ]
    refine wpAnyH_take (i := 7) (oi := { dst := some 79, op := Op.move (Operand.tmp 9), type := 9, pos := "more.go:76", after := #[], guard := none }) (v := ?v19) rfl (by kernel_rfl) (by kernel_rfl) (by kernel_rfl) (fun _ _ _ h => h) (Or.inl ⟨by rfl, ?hy19⟩) (by assumption) ?_
    case hy19 => (intro w hSw; (try dsimp only at hSw); go_simp; try with_reducible rfl)
    try simp only [Act.put, List.setIfInBounds_toArray, List.set_cons_zero, List.set_cons_succ]
    refine wpAnyH_take (i := 8) (oi := { dst := some 80, op := Op.move (Operand.tmp 11), type := 3, pos := "more.go:76", after := #[], guard := none }) (v := ?v20) rfl (by kernel_rfl) (by kernel_rfl) (by kernel_rfl) (fun _ _ _ h => h) (Or.inl ⟨by rfl, ?hy20⟩) (by assumption) ?_
    case hy20 => (intro w hSw; (try dsimp only at hSw); go_simp; try with_reducible rfl)
    try simp only [Act.put, List.setIfInBounds_toArray, List.set_cons_zero, List.set_cons_succ]
    refine wpAnyH_take (i := 9) (oi := { dst := some 81, op := Op.slice 9 (Operand.tmp 79) (some (Operand.tmp 80)) none none, type := 9, pos := "more.go:76", after := #[{ on := 7, ground := Ground.data }, { on := 8, ground := Ground.data }], guard := none }) (v := ?v21) rfl (by kernel_rfl) (by kernel_rfl) (by kernel_rfl) (fun _ _ _ h => h) (Or.inl ⟨by rfl, ?hy21⟩) (by assumption) ?_
    case hy21 => (intro w hSw; (try dsimp only at hSw); go_simp; try with_reducible rfl)
    try simp only [Act.put, List.setIfInBounds_toArray, List.set_cons_zero, List.set_cons_succ]
    refine wpAnyH_ready (rs := [4]) (by kernel_rfl) (by simp) ?_
    refine AllReadyH.cons (o := { dst := some 76, op := Op.buildSlice 39 1 #[(0, Operand.tmp 75)], type := 39, pos := "more.go:76", after := #[{ on := 3, ground := Ground.data }], guard := none }) rfl (fun K hK => ?_) AllReadyH.nil
    go_wp2_with fail
    refine hK.out _ _ trivial (fun hHeld => ?_)
    clear hK K
    try simp only [Act.put, List.setIfInBounds_toArray, List.set_cons_zero, List.set_cons_succ]
    refine wpAnyH_ready (rs := [5]) (by kernel_rfl) (by simp) ?_
    refine AllReadyH.cons (o := { dst := some 77, op := Op.convert 39 9 (Operand.tmp 76), type := 9, pos := "more.go:76", after := #[{ on := 4, ground := Ground.data }], guard := none }) rfl (fun K hK => ?_) AllReadyH.nil
    rw [if_pos (by rfl)]
    refine wp_convert _ _ _ rfl _ rfl _ hb1 ?_
    clear hb1
    refine hK.out _ _ trivial (fun hHeld => ?_)
    clear hK K
    try simp only [Act.put, List.setIfInBounds_toArray, List.set_cons_zero, List.set_cons_succ]
    refine wpAnyH_take (i := 6) (oi := { dst := some 78, op := Op.binOp BinOp.add 9 (Operand.tmp 74) (Operand.tmp 77) 9, type := 9, pos := "more.go:76", after := #[{ on := 2, ground := Ground.data }, { on := 5, ground := Ground.data }], guard := none }) (v := ?v22) rfl (by kernel_rfl) (by kernel_rfl) (by kernel_rfl) (fun _ _ _ h => h) (Or.inl ⟨by rfl, ?hy22⟩) (by assumption) ?_
    case hy22 => (intro w hSw; (try dsimp only at hSw); go_simp; (try rw [if_neg (by first | omega | (rw [HPY.out]; omega))]); try with_reducible rfl)
    try simp only [Act.put, List.setIfInBounds_toArray, List.set_cons_zero, List.set_cons_succ]
    refine wpAnyH_take (i := 10) (oi := { dst := some 82, op := Op.binOp BinOp.add 9 (Operand.tmp 78) (Operand.tmp 81) 9, type := 9, pos := "more.go:76", after := #[{ on := 6, ground := Ground.data }, { on := 9, ground := Ground.data }], guard := none }) (v := ?v23) rfl (by kernel_rfl) (by kernel_rfl) (by kernel_rfl) (fun _ _ _ h => h) (Or.inl ⟨by rfl, ?hy23⟩) (by assumption) ?_
    case hy23 => (intro w hSw; (try dsimp only at hSw); go_simp; (try rw [if_neg (by first | omega | (rw [HPY.out]; omega))]); try with_reducible rfl)
    try simp only [Act.put, List.setIfInBounds_toArray, List.set_cons_zero, List.set_cons_succ]
    have accd : Below w.heap.size w (w5.alloc (.cells #[.int .u8 (y.toNat : Int)] 5)).drew := (acc.alloc acc.size _).drew
    generalize (w5.alloc (.cells #[.int .u8 (y.toNat : Int)] 5)).drew = W at accd ⊢
    clear hp hq hu hand hmod hjz hj00 h0z stz stz1 z46 z47 z44 z32 h0b stb b46 b47 b44 b32
    refine wpAnyH_ready (rs := [11]) (by kernel_rfl) (by simp) ?_
    refine AllReadyH.cons (o := { dst := some 83, op := Op.call { callee := Callee.value (Operand.func 17), args := #[Operand.tmp 82, Operand.const (Value.string { data := #[65] }), Operand.const (Value.string { data := #[66] })], argTypes := #[9, 9, 9] }, type := 29, pos := "more.go:76", after := #[{ on := 10, ground := Ground.data }], guard := none }) rfl (fun K hK => ?_) AllReadyH.nil
    rw [if_pos (by rfl)]
    go_simp
    refine (expand_any _ _ _ _ (HG.out.below accd) (by assumption) (by decide) (by decide)).mono ?_
    rintro e w6 ⟨ade, ce, rfl, hox, hb⟩
    rw [E1.out]
    clear hox
    replace acc := accd.trans (hb.mono accd.size)
    clear hb
    dsimp only
    refine hK.out _ _ trivial (fun hHeld => ?_)
    clear hK K
    try simp only [Act.put, List.setIfInBounds_toArray, List.set_cons_zero, List.set_cons_succ]
    refine wpAnyH_take (i := 12) (oi := { dst := some 71, op := Op.move (Operand.tmp 83), type := 29, pos := "more.go:76", after := #[{ on := 11, ground := Ground.data }], guard := none }) (v := ?v24) rfl (by kernel_rfl) (by kernel_rfl) (by kernel_rfl) (fun _ _ _ h => h) (Or.inl ⟨by rfl, ?hy24⟩) (by assumption) ?_
    case hy24 => (intro w hSw; (try dsimp only at hSw); go_simp; try with_reducible rfl)
    try simp only [Act.put, List.setIfInBounds_toArray, List.set_cons_zero, List.set_cons_succ]
    refine wpAnyH_take (i := 13) (oi := { dst := some 84, op := Op.extract (Operand.tmp 71) 0, type := 24, pos := "more.go:76", after := #[{ on := 12, ground := Ground.data }], guard := none }) (v := ?v25) rfl (by kernel_rfl) (by kernel_rfl) (by kernel_rfl) (fun _ _ _ h => h) (Or.inl ⟨by rfl, ?hy25⟩) (by assumption) ?_
    case hy25 => (intro w hSw; (try dsimp only at hSw); go_simp; try with_reducible rfl)
    try simp only [Act.put, List.setIfInBounds_toArray, List.set_cons_zero, List.set_cons_succ]
    refine wpAnyH_take (i := 14) (oi := { dst := some 85, op := Op.extract (Operand.tmp 71) 1, type := 28, pos := "more.go:76", after := #[{ on := 12, ground := Ground.data }, { on := 15, ground := Ground.gcOnly Departure.lateStores }], guard := none }) (v := ?v26) rfl (by kernel_rfl) (by kernel_rfl) (by kernel_rfl) (fun _ _ _ h => h) (Or.inl ⟨by rfl, ?hy26⟩) (by assumption) ?_
    case hy26 => (intro w hSw; (try dsimp only at hSw); go_simp; try with_reducible rfl)
    try simp only [Act.put, List.setIfInBounds_toArray, List.set_cons_zero, List.set_cons_succ]
    refine wpAnyH_take (i := 15) (oi := { dst := some 12, op := Op.assign (Operand.tmp 84), type := 24, pos := "more.go:76", after := #[{ on := 13, ground := Ground.data }, { on := 11, ground := Ground.chain }, { on := 0, ground := Ground.phase }, { on := 1, ground := Ground.phase }, { on := 2, ground := Ground.phase }, { on := 3, ground := Ground.phase }, { on := 4, ground := Ground.phase }, { on := 5, ground := Ground.phase }, { on := 6, ground := Ground.phase }, { on := 7, ground := Ground.phase }, { on := 8, ground := Ground.phase }, { on := 9, ground := Ground.phase }, { on := 10, ground := Ground.phase }, { on := 11, ground := Ground.phase }, { on := 12, ground := Ground.phase }, { on := 13, ground := Ground.phase }, { on := 14, ground := Ground.textOnly Departure.lateStores }], guard := none }) (v := ?v27) rfl (by kernel_rfl) (by kernel_rfl) (by kernel_rfl) (fun _ _ _ h => h) (Or.inl ⟨by rfl, ?hy27⟩) (by assumption) ?_
    case hy27 => (intro w hSw; (try dsimp only at hSw); go_simp; try with_reducible rfl)
    try simp only [Act.put, List.setIfInBounds_toArray, List.set_cons_zero, List.set_cons_succ]
    refine wpAnyH_take (i := 16) (oi := { dst := some 13, op := Op.assign (Operand.tmp 85), type := 28, pos := "more.go:76", after := #[{ on := 14, ground := Ground.data }, { on := 15, ground := Ground.chain }, { on := 0, ground := Ground.phase }, { on := 1, ground := Ground.phase }, { on := 2, ground := Ground.phase }, { on := 3, ground := Ground.phase }, { on := 4, ground := Ground.phase }, { on := 5, ground := Ground.phase }, { on := 6, ground := Ground.phase }, { on := 7, ground := Ground.phase }, { on := 8, ground := Ground.phase }, { on := 9, ground := Ground.phase }, { on := 10, ground := Ground.phase }, { on := 11, ground := Ground.phase }, { on := 12, ground := Ground.phase }, { on := 13, ground := Ground.phase }, { on := 14, ground := Ground.phase }, { on := 15, ground := Ground.phase }], guard := none }) (v := ?v28) rfl (by kernel_rfl) (by kernel_rfl) (by kernel_rfl) (fun _ _ _ h => h) (Or.inl ⟨by rfl, ?hy28⟩) (by assumption) ?_
    case hy28 => (intro w hSw; (try dsimp only at hSw); go_simp; try with_reducible rfl)
    try simp only [Act.put, List.setIfInBounds_toArray, List.set_cons_zero, List.set_cons_succ]
    refine wpAnyH_done (by kernel_rfl) ?_ _
    go_wp2_with (go_at_call 18; refine (known_any _ (HG.out.below acc)).mono ?_; rintro e w7 ⟨rfl, hb⟩; replace acc := acc.trans (hb.mono acc.size); clear hb)
    go_ret
    exact ⟨rfl, acc⟩

theorem transitJunk_walk (ad : Option Addr) (n c : Nat) (l : List Str) (a k : Int) (hk : bulk l ≤ 1048576) (ha : (Lit.int .u8 a).wf = true) (_ : (Lit.int .i64 k).wf = true) (w : World) (hg : Glob w) (hA : At w ad n l) :
    Calls Tryd.prog 9 #[.slice ad n c, .int .u8 a, .int .i64 k] w fun e w' => e = .returned (.bool true) ∧ Below w.heap.size w w' := by
  have hr : 0 ≤ a ∧ a < 256 := by
    have := ha
    simp [Lit.wf, IntKind.min, IntKind.max, IntKind.signed, IntKind.bits] at this
    omega
  obtain ⟨y, rfl⟩ : ∃ y : UInt8, a = (y.toNat : Int) := ⟨UInt8.ofNat a.toNat, by rw [UInt8.toNat_ofNat']; omega⟩
  cases ho : (onceOf l).2
  · exact transitJunk_not w ad n c l y k hA hk (.inl ho)
  · by_cases h6 : 600 < bulk l
    · exact transitJunk_not w ad n c l y k hA hk (.inr (.inl h6))
    · by_cases h0 : (onceOf l).1.length = 0
      · exact transitJunk_not w ad n c l y k hA hk (.inr (.inr (.inl h0)))
      · by_cases h1 : 65 ≤ y.toNat ∧ y.toNat ≤ 90
        · exact transitJunk_not w ad n c l y k hA hk (.inr (.inr (.inr (.inl h1))))
        · by_cases h2 : y.toNat = 46
          · exact transitJunk_not w ad n c l y k hA hk (.inr (.inr (.inr (.inr (.inl h2)))))
          · by_cases h3 : y.toNat = 47
            · exact transitJunk_not w ad n c l y k hA hk (.inr (.inr (.inr (.inr (.inr (.inl h3))))))
            · by_cases h4 : y.toNat = 44
              · exact transitJunk_not w ad n c l y k hA hk (.inr (.inr (.inr (.inr (.inr (.inr (.inl h4)))))))
              · by_cases h5 : y.toNat = 32
                · exact transitJunk_not w ad n c l y k hA hk (.inr (.inr (.inr (.inr (.inr (.inr (.inr h5)))))))
                · exact transitJunk_is w hg ad n c l y k hA hk ho h6 h0 (by omega) h2 h3 h4 h5
end Go.Proofs.YtjbdegcmolimoaaDoor
