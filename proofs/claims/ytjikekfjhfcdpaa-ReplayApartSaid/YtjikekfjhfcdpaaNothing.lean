/-
  ReplayOfNothing, ReplayApart: the walks of the laws.
-/
import Derived.Test.YtjikekfjhfcdpaaRep
import Derived.Laws.Bits128
set_option linter.unusedVariables false
set_option linter.unusedSimpArgs false
namespace Go.Proofs.Ytjikekfjhfcdpaa
open Go Go.RowKit Go.Lib Go.Shelf

theorem replayOfNothing_walk (a : Au) (n : Int) (hr : a.realm.size ≤ 140737488351232) (hn : a.name.size ≤ 140737488351232) (w : World) :
    Calls Try.prog 8 #[.agg (enc a).toArray, .int .i64 n] w fun e w' => e = .returned (.bool true) ∧ Below w.heap.size w w' := by
  show Calls Try.prog 8 #[.agg #[.string a.realm, .string a.name, .int .i64 a.time, .int .i64 a.seq], .int .i64 n] w _
  by_cases hg : (200 : Int) < (a.name.size : Int) + (a.realm.size : Int)
  · go_enter Try.func8, Try.ntmps8
    go_wp2
    go_ret
    exact ⟨rfl, (Below.refl _ w).alloc (Nat.le_refl _) _⟩
  · go_enter Try.func8, Try.ntmps8
    go_wp2_with (first | (go_at_call 16; refine (restart_nil _ _).mono ?_; rintro e w1 ⟨rfl, rfl⟩) | (go_at_call 11; refine (see_nil _ a n).mono ?_; rintro e w2 ⟨rfl, hb2⟩) | (go_at_call 12; refine (len_nil _).mono ?_; rintro e w3 ⟨rfl, rfl⟩) | (go_at_call 13; refine (known_any _).mono ?_; rintro e w4 ⟨rfl, hb4⟩))
    go_ret
    refine ⟨rfl, (((Below.refl _ w).alloc (Nat.le_refl _) _).trans (hb2.mono (by simp))).trans (hb4.mono ?_)⟩
    have := hb2.size
    simp at this; omega

theorem i64_and3 (n : Int) : bits .and .i64 n 3 = n % 4 := by
  have h3 : (BitVec.ofInt 64 3).toNat = 2 ^ 2 - 1 := by decide
  have key : (BitVec.ofInt 64 n &&& BitVec.ofInt 64 3).toNat = (n % ((2 ^ 64 : Nat) : Int)).toNat % 2 ^ 2 := by
    rw [BitVec.toNat_and, BitVec.toNat_ofInt, h3, Nat.and_two_pow_sub_one_eq_mod]
  show IntKind.i64.wrap ((BitVec.ofInt 64 n &&& BitVec.ofInt 64 3).toNat : Nat) = n % 4
  rw [key, IntKind.wrap_i64]
  omega

theorem ans_first (r n : ByteArray) (q : Int) : seeAns [] false 0 ⟨r, n, 10, q⟩ 10 = 0 ∧ seeList [] false 0 ⟨r, n, 10, q⟩ 10 = [⟨r, n, 10, q⟩] := ⟨rfl, rfl⟩
theorem ans_second (r n r' n' : ByteArray) (q t q' : Int) (t0 : 10 ≤ t) (t1 : t ≤ 13) : seeAns [⟨r, n, 10, q⟩] false 0 ⟨r', n', t, q'⟩ 10 = (if same ⟨r', n', t, q'⟩ ⟨r, n, 10, q⟩ = true then 12 else 0) ∧ (seeList [⟨r, n, 10, q⟩] false 0 ⟨r', n', t, q'⟩ 10).length = (if same ⟨r', n', t, q'⟩ ⟨r, n, 10, q⟩ = true then 1 else 2) := by
  have h1 : skewed false 0 ⟨r', n', t, q'⟩ 10 = false := by
    show (decide ((10 : Int) + 5 < t) || (decide (t < 10 - 5) || (false && decide (t ≤ 0 + 5)))) = false
    rw [decide_eq_false (by omega), decide_eq_false (by omega)]; rfl
  have h2 : [(⟨r, n, 10, q⟩ : Au)].filter (keep 10) = [⟨r, n, 10, q⟩] := rfl
  unfold seeAns seeList
  rw [h1, h2]
  simp only [Bool.false_eq_true, if_false, List.any_cons, List.any_nil, Bool.or_false, List.length_cons, List.length_nil]
  cases same ⟨r', n', t, q'⟩ ⟨r, n, 10, q⟩ <;> simp

set_option maxHeartbeats 1000000 in
theorem apart_in (a b : Au) (hr : a.realm.size ≤ 140737488351232) (hn : a.name.size ≤ 140737488351232) (hr2 : b.realm.size ≤ 140737488351232) (hn2 : b.name.size ≤ 140737488351232) (w : World)
    (hg : ¬ (300 : Int) < (a.name.size : Int) + (a.realm.size : Int) + (b.name.size : Int) + (b.realm.size : Int)) :
    Calls Try.prog 4 #[.agg #[.string a.realm, .string a.name, .int .i64 a.time, .int .i64 a.seq], .agg #[.string b.realm, .string b.name, .int .i64 b.time, .int .i64 b.seq]] w fun e w' => e = .returned (.bool true) ∧ Below w.heap.size w w' := by
  have H3 := Lib.hid (i64_and3 b.time)
  go_enter Try.func4, Try.ntmps4
  go_wp2
  go_region
  rw [H3.out]
  have ht : wrap64 (10 + b.time % 4) = 10 + b.time % 4 := by unfold wrap64; omega
  rw [ht]
  have t0 : 10 ≤ 10 + b.time % 4 := by omega
  have t1 : 10 + b.time % 4 ≤ 13 := by omega
  clear ht
  generalize 10 + b.time % 4 = t at t0 t1 ⊢
  generalize hW2 : ((w.alloc (.cells #[.string a.realm, .string a.name, .int .i64 10, .int .i64 a.seq] 29)).alloc (.cells #[.string b.realm, .string b.name, .int .i64 t, .int .i64 b.seq] 29)).drew = W2
  have hs : W2.heap.size = w.heap.size + 2 := by rw [← hW2]; show ((w.alloc _).alloc _).heap.size = _; simp
  have hA : W2.heap[w.heap.size]? = some (.cells #[.string a.realm, .string a.name, .int .i64 10, .int .i64 a.seq] 29 (0, 0)) := by
    rw [← hW2]; show ((w.alloc _).alloc _).heap[w.heap.size]? = _
    rw [heap_alloc_old _ _ (by simp), heap_alloc_new]
  have hBx : W2.heap[w.heap.size + 1]? = some (.cells #[.string b.realm, .string b.name, .int .i64 t, .int .i64 b.seq] 29 (0, 0)) := by
    rw [← hW2]; show ((w.alloc _).alloc _).heap[w.heap.size + 1]? = _
    have := heap_alloc_new (w.alloc (.cells #[.string a.realm, .string a.name, .int .i64 10, .int .i64 a.seq] 29)) (.cells #[.string b.realm, .string b.name, .int .i64 t, .int .i64 b.seq] 29)
    rwa [show (w.alloc (.cells #[.string a.realm, .string a.name, .int .i64 10, .int .i64 a.seq] 29)).heap.size = w.heap.size + 1 by simp] at this
  have hW : Below w.heap.size w W2 := by rw [← hW2]; exact (((Below.refl _ w).alloc (Nat.le_refl _) _).alloc (by simp) _).drew
  have HS := Lib.hid hs; have HA := Lib.hid hA; have HBX := Lib.hid hBx; have HW := Lib.hid hW
  clear hW2 hs hA hBx hW
  -- the two boxes in any world behind
  have hbox : ∀ W, Below W2.heap.size W2 W → (W.cell? ⟨w.heap.size, 0, none⟩ = some (.string a.realm) ∧ W.cell? ⟨w.heap.size, 1, none⟩ = some (.string a.name) ∧ W.cell? ⟨w.heap.size, 2, none⟩ = some (.int .i64 10) ∧ W.cell? ⟨w.heap.size, 3, none⟩ = some (.int .i64 a.seq)) ∧ (W.cell? ⟨w.heap.size + 1, 0, none⟩ = some (.string b.realm) ∧ W.cell? ⟨w.heap.size + 1, 1, none⟩ = some (.string b.name) ∧ W.cell? ⟨w.heap.size + 1, 2, none⟩ = some (.int .i64 t) ∧ W.cell? ⟨w.heap.size + 1, 3, none⟩ = some (.int .i64 b.seq)) ∧ w.heap.size + 1 < W.heap.size := fun W h => by
    have h1 := (h.block _ (by rw [HS.out]; omega)).trans HA.out
    have h2 := (h.block _ (by rw [HS.out]; omega)).trans HBX.out
    have h3 := h.size
    rw [HS.out] at h3
    refine ⟨⟨?_, ?_, ?_, ?_⟩, ⟨?_, ?_, ?_, ?_⟩, by omega⟩ <;> simp [World.cell?, h1, h2]
  have HB := Lib.hid hbox
  clear hbox
  go_wp2_with fail
  refine (new_any _ _).mono ?_
  rintro e w1 ⟨rfl, hw1⟩
  obtain ⟨hR1, hB1⟩ : SeePost W2 w1 W2.heap.size W2.heap.size [] false 0 := by rw [hw1]; exact rep_new 0 W2 W2.heap.size (Nat.le_refl _)
  clear hw1
  obtain ⟨⟨p0, p1, p2, p3⟩, ⟨q0, q1, q2, q3⟩, ps⟩ := HB.out w1 hB1
  have S1 := Lib.hid (ans_first a.realm a.name a.seq)
  have hs1 := see_any w1 W2.heap.size W2.heap.size [] false 0 ⟨a.realm, a.name, 10, a.seq⟩ 10 hR1 hB1.size (by simp) (by omega) (by omega)
  rw [S1.out.1, S1.out.2] at hs1
  have hgd := fun (op : BinOp) (x y : Operand) (w : World) => eqAu.2 op x y ⟨a.realm, a.name, 10, a.seq⟩ ⟨b.realm, b.name, t, b.seq⟩ w
  have hev := fun (w : World) => eqAu.1 ⟨a.realm, a.name, 10, a.seq⟩ ⟨b.realm, b.name, t, b.seq⟩ w
  simp only [enc] at hgd hev
  clear hR1
  have hsym : same ⟨a.realm, a.name, 10, a.seq⟩ ⟨b.realm, b.name, t, b.seq⟩ = same ⟨b.realm, b.name, t, b.seq⟩ ⟨a.realm, a.name, 10, a.seq⟩ := by
    rw [Bool.eq_iff_iff, same_iff, same_iff]
    exact ⟨fun h => h.symm, fun h => h.symm⟩
  rw [hsym] at hev
  have S2 := Lib.hid (ans_second a.realm a.name b.realm b.name a.seq t b.seq t0 t1)
  clear hsym
  cases hc : same ⟨b.realm, b.name, t, b.seq⟩ ⟨a.realm, a.name, 10, a.seq⟩ with
  | true =>
    rw [hc] at hev
    have HC := Lib.hid hc
    clear hc
    go_wp2_with fail
    refine hs1.mono ?_
    rintro e w2 ⟨rfl, hR2, hB2⟩
    have hB2' := hB1.trans hB2
    obtain ⟨⟨p0, p1, p2, p3⟩, ⟨q0, q1, q2, q3⟩, ps⟩ := HB.out w2 hB2'
    have hs2 := see_any w2 W2.heap.size W2.heap.size _ false 0 ⟨b.realm, b.name, t, b.seq⟩ 10 hR2 hB2'.size (by simp) (by omega) (by omega)
    rw [S2.out.1, HC.out, if_pos rfl] at hs2
    clear hB1 hB2 hs1
    go_wp2_with fail
    refine hs2.mono ?_
    rintro e w3 ⟨rfl, hp3⟩
    have hB3 := hB2'.trans hp3.2
    obtain ⟨⟨p0, p1, p2, p3⟩, ⟨q0, q1, q2, q3⟩, ps⟩ := HB.out w3 hB3
    have hl := len_any _ _ _ _ _ _ hp3.1
    rw [S2.out.2, HC.out, if_pos rfl] at hl
    replace hl : Calls Try.prog 12 #[.pointer (some ⟨W2.heap.size, 0, none⟩)] w3 fun e w' => e = .returned (.int .i64 1) ∧ w3 = w' := hl
    clear hs2 hR2
    go_wp2_with (first | (go_at_call 12; refine hl.mono ?_; rintro e w4 ⟨rfl, rfl⟩) | (go_at_call 13; refine (known_any _).mono ?_; rintro e w5 ⟨rfl, hb5⟩))
    go_ret
    exact ⟨rfl, (HW.out.trans (hB3.mono (by rw [HS.out]; omega))).trans (hb5.mono (by have := hB3.size; rw [HS.out] at this; omega))⟩
  | false =>
    rw [hc] at hev
    have HC := Lib.hid hc
    clear hc
    go_wp2_with fail
    refine hs1.mono ?_
    rintro e w2 ⟨rfl, hR2, hB2⟩
    have hB2' := hB1.trans hB2
    obtain ⟨⟨p0, p1, p2, p3⟩, ⟨q0, q1, q2, q3⟩, ps⟩ := HB.out w2 hB2'
    have hs2 := see_any w2 W2.heap.size W2.heap.size _ false 0 ⟨b.realm, b.name, t, b.seq⟩ 10 hR2 hB2'.size (by simp) (by omega) (by omega)
    rw [S2.out.1, HC.out, if_neg (by decide)] at hs2
    clear hB1 hB2 hs1
    go_wp2_with fail
    refine hs2.mono ?_
    rintro e w3 ⟨rfl, hp3⟩
    have hB3 := hB2'.trans hp3.2
    obtain ⟨⟨p0, p1, p2, p3⟩, ⟨q0, q1, q2, q3⟩, ps⟩ := HB.out w3 hB3
    have hl := len_any _ _ _ _ _ _ hp3.1
    rw [S2.out.2, HC.out, if_neg (by decide)] at hl
    replace hl : Calls Try.prog 12 #[.pointer (some ⟨W2.heap.size, 0, none⟩)] w3 fun e w' => e = .returned (.int .i64 2) ∧ w3 = w' := hl
    clear hs2 hR2
    go_wp2_with (first | (go_at_call 12; refine hl.mono ?_; rintro e w4 ⟨rfl, rfl⟩) | (go_at_call 13; refine (known_any _).mono ?_; rintro e w5 ⟨rfl, hb5⟩))
    go_ret
    exact ⟨rfl, (HW.out.trans (hB3.mono (by rw [HS.out]; omega))).trans (hb5.mono (by have := hB3.size; rw [HS.out] at this; omega))⟩

theorem replayApart_walk (a b : Au) (hr : a.realm.size ≤ 140737488351232) (hn : a.name.size ≤ 140737488351232) (hr2 : b.realm.size ≤ 140737488351232) (hn2 : b.name.size ≤ 140737488351232) (w : World) :
    Calls Try.prog 4 #[.agg (enc a).toArray, .agg (enc b).toArray] w fun e w' => e = .returned (.bool true) ∧ Below w.heap.size w w' := by
  by_cases hg : (300 : Int) < (a.name.size : Int) + (a.realm.size : Int) + (b.name.size : Int) + (b.realm.size : Int)
  · show Calls Try.prog 4 #[.agg #[.string a.realm, .string a.name, .int .i64 a.time, .int .i64 a.seq], .agg #[.string b.realm, .string b.name, .int .i64 b.time, .int .i64 b.seq]] w _
    go_enter Try.func4, Try.ntmps4
    go_wp2
    go_ret
    exact ⟨rfl, ((Below.refl _ w).alloc (Nat.le_refl _) _).alloc (by simp) _⟩
  · exact apart_in a b hr hn hr2 hn2 w hg

end Go.Proofs.Ytjikekfjhfcdpaa
