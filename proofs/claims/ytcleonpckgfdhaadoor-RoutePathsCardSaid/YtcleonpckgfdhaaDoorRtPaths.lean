/-
  RoutePaths: the law's walk.
-/
import Derived.Test.YtcleonpckgfdhaaDoorRtAllowed
import Derived.Test.YtcleonpckgfdhaaDoorRtTreesP
import Derived.ChangeSlices
import Derived.Test.YtcleonpckgfdhaaDoorBase
import Derived.SliceStrings
import Derived.ProofKit
import Derived.Carry
import Derived.Deep.Slices
set_option linter.unusedVariables false
set_option linter.unusedSimpArgs false
set_option maxRecDepth 100000
namespace Go.Proofs.YtcleonpckgfdhaaDoor
open Go Go.RowKit Go.Lib Go.Shelf

theorem i64_and3 (n : Int) : bits .and .i64 n 3 = n % 4 := by
  have h3 : (BitVec.ofInt 64 3).toNat = 2 ^ 2 - 1 := by decide
  have key : (BitVec.ofInt 64 n &&& BitVec.ofInt 64 3).toNat = (n % ((2 ^ 64 : Nat) : Int)).toNat % 2 ^ 2 := by
    rw [BitVec.toNat_and, BitVec.toNat_ofInt, h3, Nat.and_two_pow_sub_one_eq_mod]
  show IntKind.i64.wrap ((BitVec.ofInt 64 n &&& BitVec.ofInt 64 3).toNat : Nat) = n % 4
  rw [key, IntKind.wrap_i64]
  omega

structure IntsAt (w : World) (ad : Option Addr) (n : Nat) (z : List Int) : Prop where
  len : z.length = n
  cell : 0 < n → ∃ b off, ad = some ⟨b, off, none⟩ ∧ b < w.heap.size ∧ ∀ j, j < n → w.cell? ⟨b, off + j, none⟩ = some (.int .i64 z[j]!)

theorem wpOp_append_link {o : Oper} {a : Act} {K : Act → World → Prop} {Q : Exit → Act → World → Prop} (w : World) (s x : Operand)
    (ho : o.op = .call { callee := .builtin .append, args := #[s, x], argTypes := #[23, 23] }) (base : Nat) (ad : Option Addr) (n c : Nat) (L : List Link) (hs : a.eval s = .slice ad n c) (hown : w.ownsRow base 37 2 (.slice ad n c) n (lnks L))
    (blk : Nat) (f t : Str) (hx : a.eval x = .slice (some ⟨blk, 0, none⟩) 1 1) (hblk : w.heap[blk]? = some (.cells #[.string ⟨f.toArray⟩, .string ⟨t.toArray⟩] 37 (0, 0))) (hn : n ≤ 2200000) (hbase : base ≤ w.heap.size)
    (h : ∀ g cap w', w'.ownsRow base 37 2 (.slice (some ⟨g, 0, none⟩) (n + 1) cap) (n + 1) (lnks (L ++ [(f, t)])) → Below base w w' → K (a.put o.dst (.slice (some ⟨g, 0, none⟩) (n + 1) cap)) w') : o.wp Tryd.prog a w K Q := by
  have hI := info_link
  rw [Option.map_eq_some_iff] at hI
  obtain ⟨i0, hi, he⟩ := hI
  simp only [Prod.mk.injEq] at he
  refine wp_append_lies w s x 23 ho base 37 i0 (.agg #[.string ⟨#[]⟩, .string ⟨#[]⟩]) 2 32 Tryd.underlying23 hi he.1 he.2.1 he.2.2 rfl (by decide) (.slice ad n c) n (lnks L) hs hown ⟨blk, 0, none⟩ 1 1 (linkv (f, t)) hx rfl (World.news_of_block (cs := (linkv (f, t)).toArray) hblk) (linkv_one _) (by decide) (by unfold maxLen; omega) (by omega) hbase _ rfl ?_
  intro g cap w' hown' hgrow hat hlt
  refine h g cap w' ?_ ((Below.refl base w).grown hgrow hbase (fun k hk => (hown.lt k hk).1))
  rw [show lnks (L ++ [(f, t)]) = lnks L ++ linkv (f, t) by simp [lnks]]
  exact hown'

/-! ### plain -/
abbrev pA : Str := [65]
abbrev pF : Str := [70]
def allT : List Str := [[65], [66], [67], [68], [69], [70]]
def midT : List Str := [[66], [67], [68], [69]]
theorem all_mid (m : Nat) (h : m < 4) : allT[1 + m]! ∈ midT := by
  match m, h with
  | 0, _ => decide
  | 1, _ => decide
  | 2, _ => decide
  | 3, _ => decide
section
variable {L : List Str} {Lk : List Link}
theorem p_laid : laidOf ⟨allT, Lk, [((pA, pF), L)]⟩ pA pF = some L := by unfold laidOf; simp
theorem p_via : viaOf ⟨allT, Lk, [((pA, pF), L)]⟩ pA pF = L := by unfold viaOf; rw [p_laid]
theorem p_next (h : (pA, (L ++ [pF])[0]!) ∈ Lk) : nextOf ⟨allT, Lk, [((pA, pF), L)]⟩ pA pF = some (L ++ [pF])[0]! := by
  unfold nextOf wayTo
  rw [if_neg (by decide), p_laid]
  have e : (L ++ [pF]).take 1 = [(L ++ [pF])[0]!] := by
    cases L <;> simp
  simp only
  rw [e]
  have hl : linkedOf ⟨allT, Lk, [((pA, pF), L)]⟩ pA (L ++ [pF])[0]! = true := decide_eq_true h
  rw [List.reverse_singleton]
  exact List.find?_cons_of_pos hl
theorem p_all : allowedOf ⟨allT, Lk, [((pA, pF), L)]⟩ pA pF L = true := by
  unfold allowedOf
  rw [p_via, List.all_eq_true]
  intro x hx
  exact decide_eq_true hx
theorem p_one (o : Str) : allowedOf ⟨allT, Lk, [((pA, pF), L)]⟩ pA pF [o] = decide (o ∈ L) := by
  unfold allowedOf
  rw [p_via]
  simp
theorem p_not (h : ∀ x ∈ L, x ∈ midT) : allowedOf ⟨allT, Lk, [((pA, pF), L)]⟩ pA pF [pA] = false := by
  rw [p_one]
  exact decide_eq_false fun hm => absurd (h _ hm) (by decide)
theorem p_short (h : ∀ x ∈ L, x ∈ midT) (hl : L.length ≤ 4) : Short ⟨allT, Lk, [((pA, pF), L)]⟩ := by
  refine ⟨by simp, fun p hp => ?_⟩
  simp only [List.mem_singleton] at hp
  subst hp
  refine ⟨by show L.length ≤ 100000; omega, fun r hr => ?_⟩
  have := h r hr
  simp only [midT, List.mem_cons, List.not_mem_nil, or_false] at this
  rcases this with rfl | rfl | rfl | rfl <;> decide
end

theorem keep_other {W : World} {bx i g j : Nat} {v u : Value} (hne : g ≠ bx) (h : W.cell? ⟨g, j, none⟩ = some u) : (W.setCell ⟨bx, i, none⟩ v).cell? ⟨g, j, none⟩ = some u :=
  (World.cell?_setCell_far W ⟨bx, i, none⟩ ⟨g, j, none⟩ v (fun e => hne e.symm)).trans h

set_option maxHeartbeats 16000000 in
theorem routePaths_walk (ad : Option Addr) (n c : Nat) (z : List Int) (other : Int) (_ : (Lit.int .i64 other).wf = true) (w : World) (hg : Glob w) (hA : IntsAt w ad n z) :
    Calls Tryd.prog 9 #[.slice ad n c, .int .i64 other] w fun e w' => e = .returned (.bool true) ∧ Below w.heap.size w w' := by
  obtain ⟨w1, hw1⟩ : ∃ w1, w1 = w.alloc (.cells #[.string ⟨#[65]⟩, .string ⟨#[66]⟩, .string ⟨#[67]⟩, .string ⟨#[68]⟩, .string ⟨#[69]⟩, .string ⟨#[70]⟩] 9) := ⟨_, rfl⟩
  have acc1 : Below w.heap.size w w1 := by rw [hw1]; exact (Below.refl _ _).alloc (Nat.le_refl _) _
  have hz1 : w1.heap.size = w.heap.size + 1 := by rw [hw1]; simp
  have hblk1 : w1.heap[w.heap.size]? = some (.cells (strs allT).toArray 9 (0, 0)) := by rw [hw1]; exact heap_alloc_new _ _
  have hAll := at_block hblk1
  have hcell : ∀ W, Below w1.heap.size w1 W → ∀ j, j < 6 → W.cell? ⟨w.heap.size, j, none⟩ = some (.string ⟨allT[j]!.toArray⟩) := fun W h j hj => by
    obtain ⟨b, off, e, hlt, hc⟩ := hAll.cell (by decide)
    simp only [Option.some.injEq, Addr.mk.injEq] at e
    obtain ⟨rfl, rfl, _⟩ := e
    have := (h.cell (p := ⟨w.heap.size, 0 + j, none⟩) hlt).trans (hc j hj)
    rwa [Nat.zero_add] at this
  have HG := Lib.hid hg
  have HA := Lib.hid hA
  have HALL := Lib.hid hAll
  have HCELL := Lib.hid hcell
  have ACC1 := Lib.hid acc1
  have HZ1 := Lib.hid hz1
  have HW1 := Lib.hid hw1
  clear hg hA acc1 hz1 hw1 hblk1 hAll hcell
  go_enter Tryd.func9, Tryd.ntmps9
  go_upto_block 0 with fail
  rw [← HW1.out]
  go_cut [6] from 7 (fun s6 wx => ∃ (aL : Option Addr) (nL cL : Nat) (L : List Str), s6 = .slice aL nL cL ∧ nL ≤ 4 ∧ Aside (∀ x ∈ L, x ∈ midT) ∧ Aside (wx.ownsRow w1.heap.size 9 1 (.slice aL nL cL) nL (strs L)) ∧ Aside (Below w1.heap.size w1 wx))
  case first =>
    go_wp2_with fail
    go_loopg [6, 7] 4 (fun gg s6 s7 wr => ∃ (k cL : Nat) (aL : Option Addr) (L : List Str), k ≤ 4 ∧ 4 - k ≤ gg ∧ s7 = .int .i64 k ∧ s6 = .slice aL k cL ∧ Aside (∀ x ∈ L, x ∈ midT) ∧ Aside (wr.ownsRow w1.heap.size 9 1 (.slice aL k cL) k (strs L)) ∧ Aside (Below w1.heap.size w1 wr))
    case atStart => exact ⟨0, 0, none, [], by omega, by omega, rfl, rfl, (fun x hx => by cases hx), World.ownsRow_nil _ _ _ _, Below.refl _ _⟩
    case round =>
      obtain ⟨k, cL, aL, L, hk, hgg, rfl, rfl, HMID, HO, HB⟩ := hrel
      by_cases hlt : k < n
      case neg =>
        go_wp2
        go_meet
        case rel => exact ⟨aL, k, cL, L, rfl, by omega, HMID.out, HO.out, HB.out⟩
      have hltz : (k : Int) < (n : Int) := by omega
      by_cases h4 : k < 4
      case neg =>
        have h4z : ¬ (k : Int) < 4 := by omega
        go_wp2
        go_meet
        case rel => exact ⟨aL, k, cL, L, rfl, by omega, HMID.out, HO.out, HB.out⟩
      have h4z : (k : Int) < 4 := by omega
      obtain ⟨bb, off, hb, hbl, hc⟩ := HA.out.cell (show 0 < n by omega)
      obtain ⟨v, hv⟩ : ∃ v, v = z[k]! := ⟨_, rfl⟩
      have c0 := ((ACC1.out.trans (HB.out.mono ACC1.out.size)).cell (p := ⟨bb, off + k, none⟩) hbl).trans (hc k hlt)
      rw [← hv] at c0
      obtain ⟨m, hm, hm4⟩ : ∃ m : Nat, v % 4 = (m : Int) ∧ m < 4 := ⟨(v % 4).toNat, by omega, by omega⟩
      have hand := i64_and3 v
      rw [hm] at hand
      obtain ⟨j, hj⟩ : ∃ j, j = 1 + m := ⟨_, rfl⟩
      have hwr : IntKind.i64.wrap (1 + (m : Int)) = (j : Int) := by rw [IntKind.wrap_i64]; omega
      have hwr2 : IntKind.i64.wrap (j : Int) = (j : Int) := by rw [IntKind.wrap_i64]; omega
      have hj6 : (j : Int) < 6 := by omega
      have hj0 : (0 : Int) ≤ (j : Int) := by omega
      obtain ⟨x, hx⟩ : ∃ x : ByteArray, x = ⟨allT[j]!.toArray⟩ := ⟨_, rfl⟩
      have ca := HCELL.out wr HB.out j (by omega)
      rw [← hx] at ca
      have hxm : x.data.toList ∈ midT := by rw [hx, hj]; exact all_mid m hm4
      obtain ⟨PL, hPL⟩ : ∃ PL, PL = placeOf L x.data.toList := ⟨_, rfl⟩
      have hpp := place_pos L x.data.toList
      rw [← hPL] at hpp
      have HPL := Lib.hid hPL.symm
      have HXM := Lib.hid hxm
      subst hb
      clear hc hv hm hj hx hxm hPL hbl
      by_cases hin : x.data.toList ∈ L
      · rw [decide_eq_true hin] at hpp
        have hp2 : 0 ≤ PL := by simpa using hpp
        clear hin
        go_wp2_with (go_at_call 18; refine (place_any _ aL k cL L x (At.owns HO.out) (by omega)).mono ?_; rintro e w3 ⟨rfl, hq⟩; rw [HPL.out])
        go_ret
        obtain ⟨q, rfl⟩ := hq
        exact ⟨rfl, below_drewN (ACC1.out.trans (HB.out.mono ACC1.out.size)) q⟩
      · rw [decide_eq_false hin] at hpp
        have hp2 : ¬ 0 ≤ PL := by simpa using hpp
        clear hin
        go_wp2_with (first
          | (go_at_call 18; refine (place_any _ aL k cL L x (At.owns HO.out) (by omega)).mono ?_; rintro e w3 ⟨rfl, hq⟩; rw [HPL.out]; have acc3 : Below wr.heap.size wr w3 := (by obtain ⟨q, rfl⟩ := hq; exact below_drewN (Below.refl _ _) q); clear hq)
          | (at_builtin; refine wpList_append_text _ rfl (.tmp 39) (.tmp 41) rfl w1.heap.size aL k cL L rfl ((own_below HO.out acc3).alloc _) w3.heap.size x.data.toList rfl (heap_alloc_new _ _) (by omega) (by have := acc3.size; have := HB.out.size; simp; omega) ?_; intro g6 c6 w6 hown6 hb6))
        have hs3 := acc3.size
        have HB6 := Lib.hid ((HB.out.trans (acc3.mono HB.out.size)).trans ((((Below.refl _ w3).alloc (Nat.le_refl _) _).mono (Nat.le_trans HB.out.size hs3)).trans hb6))
        have HO6 := Lib.hid hown6
        clear hown6 hb6 acc3 hs3 hand hwr hwr2 c0 ca hpp hp2
        go_roundg (4 - (k + 1))
        case measure => omega
        case rel =>
          refine ⟨k + 1, c6, some ⟨g6, 0, none⟩, L ++ [x.data.toList], by omega, by omega, by go_num, rfl, fun y hy => ?_, HO6.out, HB6.out⟩
          rcases List.mem_append.1 hy with h | h
          · exact HMID.out y h
          · rw [List.mem_singleton.1 h]; exact HXM.out
  case rest =>
    obtain ⟨aL, nL, cL, L, rfl, hnL, HMID, HO, HB⟩ := hcut
    obtain ⟨wy, rfl⟩ : ∃ wy : World, wy = wc := ⟨_, rfl⟩
    have hcL := own_cap HO.out
    obtain ⟨w2, hw2⟩ : ∃ w2, w2 = wy.alloc (.cells #[.string ⟨#[65]⟩, .string ⟨#[70]⟩, .slice aL nL cL] 42) := ⟨_, rfl⟩
    obtain ⟨w3, hw3⟩ : ∃ w3, w3 = w2.alloc (.cells #[.slice (some ⟨w.heap.size, 0, none⟩) 6 6, .slice none 0 0, .slice (some ⟨wy.heap.size, 0, none⟩) 1 1] 26) := ⟨_, rfl⟩
    have hz2 : w2.heap.size = wy.heap.size + 1 := by rw [hw2]; simp
    have hz3 : w3.heap.size = wy.heap.size + 2 := by rw [hw3]; simp; omega
    have b12 : Below wy.heap.size wy w2 := by rw [hw2]; exact (Below.refl _ _).alloc (Nat.le_refl _) _
    have b23 : Below w2.heap.size w2 w3 := by rw [hw3]; exact (Below.refl _ _).alloc (Nat.le_refl _) _
    have hways : WaysAt w2 (some ⟨wy.heap.size, 0, none⟩) 1 [((pA, pF), L)] := by
      refine ⟨rfl, fun _ => ⟨wy.heap.size, 0, rfl, by omega, fun j hj => ?_⟩⟩
      have hj0 : j = 0 := by omega
      subst hj0
      refine ⟨aL, nL, cL, ?_, ?_, ?_, (At.owns HO.out).below b12, hcL⟩
      · rw [hw2]; exact cell_new rfl _ _ rfl
      · rw [hw2]; exact cell_new rfl _ _ rfl
      · rw [hw2]; exact cell_new rfl _ _ rfl
    have bx3 : BoxAt w3 (wy.heap.size + 1) (.slice (some ⟨w.heap.size, 0, none⟩) 6 6) (.slice none 0 0) (.slice (some ⟨wy.heap.size, 0, none⟩) 1 1) := by
      rw [hw3, ← hz2]
      exact ⟨cell_new rfl _ _ rfl, cell_new rfl _ _ rfl, cell_new rfl _ _ rfl, frozen_new _ _ _⟩
    have hw3e := hw3
    rw [hw2] at hw3e
    have hall2 : At w2 (some ⟨w.heap.size, 0, none⟩) 6 allT := HALL.out.below (HB.out.trans (b12.mono HB.out.size))
    have HL2 := Lib.hid ((At.owns HO.out).below b12)
    have HALL2 := Lib.hid hall2
    have HWAY := Lib.hid hways
    have BX3 := Lib.hid bx3
    have HZ2 := Lib.hid hz2
    have HZ3 := Lib.hid hz3
    have B23 := Lib.hid b23
    have AC2 := Lib.hid (HB.out.trans (b12.mono HB.out.size))
    have HW3 := Lib.hid hw3e
    have hLl : L.length = nL := (At.owns HO.out).len
    have HLN := Lib.hid hLl
    clear hw2 hw3 hz2 hz3 b12 b23 hways bx3 hw3e hall2 HO HB hLl
    go_upto_region 11 with fail
    rw [← HW3.out]
    go_upto_block 2 with (first
      | (at_builtin; refine wpList_append_texts _ rfl (.tmp 48) (.tmp 49) rfl w3.heap.size (some ⟨w3.heap.size, 0, none⟩) 1 1 [pA] rfl (wpList_lit_text pA) aL nL cL L rfl ((HL2.out.below B23.out).below ((Below.refl _ _).alloc (Nat.le_refl _) _)) (by omega) (by omega) (by simp) ?_; intro ad8 c8 w8 hown8 hb8; have acc8 : Below w3.heap.size w3 w8 := ((Below.refl _ _).alloc (Nat.le_refl _) _).trans hb8; clear hb8)
      | (at_builtin; refine wpList_append_text _ rfl (.tmp 50) (.tmp 51) rfl w3.heap.size ad8 (1 + nL) c8 ([pA] ++ L) rfl (hown8.alloc _) w8.heap.size pF rfl (heap_alloc_new _ _) (by omega) (by have := acc8.size; simp; omega) ?_; intro gP c9 w4 hown9 hb9; have acc4 : Below w3.heap.size w3 w4 := acc8.trans (((Below.refl _ _).alloc acc8.size _).trans hb9); clear hb9 hown8))
    obtain ⟨P, hP⟩ : ∃ P, P = [pA] ++ L ++ [pF] := ⟨_, rfl⟩
    rw [← hP] at hown9
    obtain ⟨N, hN⟩ : ∃ N, N = 1 + nL + 1 := ⟨_, rfl⟩
    rw [← hN] at hown9 ⊢
    have hcap := own_cap hown9
    have hN2 : 2 ≤ N := by omega
    have hN6 : N ≤ 6 := by omega
    have hPl : P.length = N := (At.owns hown9).len
    have hlow := (World.ownsRow.form hown9 (by omega))
    have hz3 := HZ3.out
    have hs4 := acc4.size
    have hgP : wy.heap.size + 2 ≤ gP ∧ gP < w4.heap.size := by
      obtain ⟨g, cap, e, hb, hlt⟩ := hlow
      simp only [Value.slice.injEq, Option.some.injEq, Addr.mk.injEq] at e
      obtain ⟨⟨rfl, _⟩, _⟩ := e
      exact ⟨by omega, hlt⟩
    have hne : gP ≠ wy.heap.size + 1 := by omega
    have hown10 : w4.ownsRow (wy.heap.size + 1 + 1) 9 1 (.slice (some ⟨gP, 0, none⟩) N c9) N (strs P) := Joins.ownsRow_le hown9 (by omega)
    have bx4 := BX3.out.below acc4 (by omega : wy.heap.size + 1 < w3.heap.size)
    have hlt4 : wy.heap.size + 1 < w4.heap.size := by omega
    have hb24 : Below (wy.heap.size + 1) w2 w4 := by
      have e := HZ2.out
      rw [← e]
      exact B23.out.trans (acc4.mono B23.out.size)
    have HP := Lib.hid hP
    have HPL := Lib.hid hPl
    have HN := Lib.hid hN
    have HO9 := Lib.hid hown10
    have BX4 := Lib.hid bx4
    have HLT4 := Lib.hid hlt4
    have B24 := Lib.hid hb24
    have HNE := Lib.hid hne
    clear hown9 hown10 bx4 hlt4 hb24 hne hP hPl hN hlow hz3 hs4 hgP acc8 acc4
    go_wp2_with fail
    go_loopg [11] N (fun gg s11 wr => ∃ (k nl cl : Nat) (al : Option Addr) (Lk : List Link), 1 ≤ k ∧ k ≤ N ∧ N - k ≤ gg ∧ s11 = .int .i64 k ∧ nl ≤ k ∧ Aside (BoxAt wr (wy.heap.size + 1) (.slice (some ⟨w.heap.size, 0, none⟩) 6 6) (.slice al nl cl) (.slice (some ⟨wy.heap.size, 0, none⟩) 1 1)) ∧ Aside (wr.ownsRow w4.heap.size 37 2 (.slice al nl cl) nl (lnks Lk)) ∧ Aside (Off (wy.heap.size + 1) w4 wr) ∧ Aside (Below (wy.heap.size + 1) w2 wr) ∧ Aside (2 ≤ k → (P[0]!, P[1]!) ∈ Lk))
    case atStart => exact ⟨1, 0, 0, none, [], by omega, by omega, by omega, rfl, by omega, BX4.out, World.ownsRow_nil _ _ _ _, Off.refl _ _, B24.out, fun h => absurd h (by omega)⟩
    case round =>
      obtain ⟨k, nl, cl, al, Lk, hk1, hk, hgg, rfl, hnl, HBX, HOL, HOF, HB2, HM⟩ := hrel
      have hpc : ∀ W, Off (wy.heap.size + 1) w4 W → ∀ j, j < N → W.cell? ⟨gP, j, none⟩ = some (.string ⟨P[j]!.toArray⟩) := fun W h j hj => by
        obtain ⟨b, off, e, hlt, hc⟩ := (At.owns (h.own HO9.out)).cell (by omega)
        simp only [Option.some.injEq, Addr.mk.injEq] at e
        obtain ⟨rfl, rfl, _⟩ := e
        have := hc j hj
        rwa [Nat.zero_add] at this
      have HPC := Lib.hid hpc
      clear hpc
      by_cases hlt : k < N
      · have hltz : (k : Int) < (N : Int) := by omega
        have hwr : IntKind.i64.wrap ((k : Int) - 1) = ((k - 1 : Nat) : Int) := by rw [IntKind.wrap_i64]; omega
        have hwr2 : IntKind.i64.wrap ((k - 1 : Nat) : Int) = ((k - 1 : Nat) : Int) := by rw [IntKind.wrap_i64]; omega
        have hsub : (k : Int) - 1 = ((k - 1 : Nat) : Int) := by omega
        have hz0 : (0 : Int) ≤ ((k - 1 : Nat) : Int) := by omega
        have hz1 : (0 : Int) ≤ (k : Int) := by omega
        have hk2 : ((k - 1 : Nat) : Int) < (N : Int) := by omega
        obtain ⟨p, hp⟩ : ∃ p : ByteArray, p = ⟨P[k - 1]!.toArray⟩ := ⟨_, rfl⟩
        obtain ⟨q, hq⟩ : ∃ q : ByteArray, q = ⟨P[k]!.toArray⟩ := ⟨_, rfl⟩
        have hpd : p.data.toList = P[k - 1]! := by rw [hp]
        have hqd : q.data.toList = P[k]! := by rw [hq]
        have hkq : ∀ W, Off (wy.heap.size + 1) w4 W → W.cell? ⟨gP, k - 1, none⟩ = some (.string p) ∧ W.cell? ⟨gP, k, none⟩ = some (.string q) := fun W h => by
          rw [hp, hq]
          exact ⟨HPC.out W h (k - 1) (by omega), HPC.out W h k hlt⟩
        have hkp : ∀ W, Below wr.heap.size wr W → W.cell? ⟨gP, k - 1, none⟩ = some (.string p) ∧ W.cell? ⟨gP, k, none⟩ = some (.string q) := fun W h => hkq W (HOF.out.below h HOF.out.size)
        have hOFB : ∀ {wb w6 : World}, Below wr.heap.size wr wb → Below w4.heap.size wb w6 → Off (wy.heap.size + 1) w4 w6 := fun h1 h2 => (HOF.out.below h1 HOF.out.size).below h2 (Nat.le_refl _)
        have hltw : wy.heap.size + 1 < wr.heap.size := Nat.lt_of_lt_of_le HLT4.out HOF.out.size
        have KQ := Lib.hid hkq
        have KP := Lib.hid hkp
        have HLTW := Lib.hid hltw
        have HPD := Lib.hid hpd
        have HQD := Lib.hid hqd
        have acc2 : Below wr.heap.size wr wr.drew := (Below.refl _ _).drew
        clear hp hq hpd hqd hkq hkp hltw
        go_upto_region 15 with fail
        refine wp_region_held_drew (S := (fun W => W.cell? ⟨gP, k - 1, none⟩ = some (.string p) ∧ W.cell? ⟨gP, k, none⟩ = some (.string q))) (by kernel_rfl) (KP.out _ acc2) (fun hHeld => ?_)
        refine wpAnyH_take (i := 0) (oi := { dst := some 59, op := Op.fieldAddr 26 (Operand.tmp 9) 1, type := 0, pos := "law.go:139", after := #[], guard := none }) (v := ?v1) rfl (by kernel_rfl) (by kernel_rfl) (by kernel_rfl) (fun _ _ _ h => h) (Or.inl ⟨by rfl, ?hy1⟩) (by assumption) ?_
        case hy1 => (intro w hSw; (try dsimp only at hSw); go_simp; try with_reducible rfl)
        try simp only [Act.put, List.setIfInBounds_toArray, List.set_cons_zero, List.set_cons_succ]
        refine wpAnyH_take (i := 2) (oi := { dst := some 61, op := Op.move (Operand.tmp 10), type := 22, pos := "law.go:139", after := #[], guard := none }) (v := ?v2) rfl (by kernel_rfl) (by kernel_rfl) (by kernel_rfl) (fun _ _ _ h => h) (Or.inl ⟨by rfl, ?hy2⟩) (by assumption) ?_
        case hy2 => (intro w hSw; (try dsimp only at hSw); go_simp; try with_reducible rfl)
        try simp only [Act.put, List.setIfInBounds_toArray, List.set_cons_zero, List.set_cons_succ]
        refine wpAnyH_take (i := 3) (oi := { dst := some 62, op := Op.move (Operand.tmp 11), type := 3, pos := "law.go:139", after := #[], guard := none }) (v := ?v3) rfl (by kernel_rfl) (by kernel_rfl) (by kernel_rfl) (fun _ _ _ h => h) (Or.inl ⟨by rfl, ?hy3⟩) (by assumption) ?_
        case hy3 => (intro w hSw; (try dsimp only at hSw); go_simp; try with_reducible rfl)
        try simp only [Act.put, List.setIfInBounds_toArray, List.set_cons_zero, List.set_cons_succ]
        refine wpAnyH_take (i := 4) (oi := { dst := some 63, op := Op.binOp BinOp.sub 3 (Operand.tmp 62) (Operand.const (Value.int IntKind.i64 1)) 3, type := 3, pos := "law.go:139", after := #[{ on := 3, ground := Ground.data }], guard := none }) (v := ?v4) rfl (by kernel_rfl) (by kernel_rfl) (by kernel_rfl) (fun _ _ _ h => h) (Or.inl ⟨by rfl, ?hy4⟩) (by assumption) ?_
        case hy4 => (intro w hSw; (try dsimp only at hSw); go_simp; try with_reducible rfl)
        try simp only [Act.put, List.setIfInBounds_toArray, List.set_cons_zero, List.set_cons_succ]
        refine wpAnyH_take (i := 5) (oi := { dst := some 64, op := Op.indexAddr 22 (Operand.tmp 61) (Operand.tmp 63), type := 0, pos := "law.go:139", after := #[{ on := 2, ground := Ground.data }, { on := 4, ground := Ground.data }], guard := none }) (v := ?v5) rfl (by kernel_rfl) (by kernel_rfl) (by kernel_rfl) (fun _ _ _ h => h) (Or.inl ⟨by rfl, ?hy5⟩) (by assumption) ?_
        case hy5 => (intro w hSw; (try dsimp only at hSw); go_simp; try with_reducible rfl)
        try simp only [Act.put, List.setIfInBounds_toArray, List.set_cons_zero, List.set_cons_succ]
        refine wpAnyH_take (i := 6) (oi := { dst := some 65, op := Op.load 9 (Operand.tmp 64), type := 9, pos := "law.go:139", after := #[{ on := 5, ground := Ground.data }], guard := none }) (v := ?v6) rfl (by kernel_rfl) (by kernel_rfl) (by kernel_rfl) (fun _ _ _ h => h) (Or.inl ⟨by rfl, ?hy6⟩) (by assumption) ?_
        case hy6 => (intro w hSw; (try dsimp only at hSw); go_simp; try with_reducible rfl)
        try simp only [Act.put, List.setIfInBounds_toArray, List.set_cons_zero, List.set_cons_succ]
        refine wpAnyH_take (i := 7) (oi := { dst := some 66, op := Op.move (Operand.tmp 10), type := 22, pos := "law.go:139", after := #[], guard := none }) (v := ?v7) rfl (by kernel_rfl) (by kernel_rfl) (by kernel_rfl) (fun _ _ _ h => h) (Or.inl ⟨by rfl, ?hy7⟩) (by assumption) ?_
        case hy7 => (intro w hSw; (try dsimp only at hSw); go_simp; try with_reducible rfl)
        try simp only [Act.put, List.setIfInBounds_toArray, List.set_cons_zero, List.set_cons_succ]
        refine wpAnyH_take (i := 8) (oi := { dst := some 67, op := Op.move (Operand.tmp 11), type := 3, pos := "law.go:139", after := #[], guard := none }) (v := ?v8) rfl (by kernel_rfl) (by kernel_rfl) (by kernel_rfl) (fun _ _ _ h => h) (Or.inl ⟨by rfl, ?hy8⟩) (by assumption) ?_
        case hy8 => (intro w hSw; (try dsimp only at hSw); go_simp; try with_reducible rfl)
        try simp only [Act.put, List.setIfInBounds_toArray, List.set_cons_zero, List.set_cons_succ]
        refine wpAnyH_take (i := 9) (oi := { dst := some 68, op := Op.indexAddr 22 (Operand.tmp 66) (Operand.tmp 67), type := 0, pos := "law.go:139", after := #[{ on := 7, ground := Ground.data }, { on := 8, ground := Ground.data }], guard := none }) (v := ?v9) rfl (by kernel_rfl) (by kernel_rfl) (by kernel_rfl) (fun _ _ _ h => h) (Or.inl ⟨by rfl, ?hy9⟩) (by assumption) ?_
        case hy9 => (intro w hSw; (try dsimp only at hSw); go_simp; try with_reducible rfl)
        try simp only [Act.put, List.setIfInBounds_toArray, List.set_cons_zero, List.set_cons_succ]
        refine wpAnyH_take (i := 10) (oi := { dst := some 69, op := Op.load 9 (Operand.tmp 68), type := 9, pos := "law.go:139", after := #[{ on := 9, ground := Ground.data }], guard := none }) (v := ?v10) rfl (by kernel_rfl) (by kernel_rfl) (by kernel_rfl) (fun _ _ _ h => h) (Or.inl ⟨by rfl, ?hy10⟩) (by assumption) ?_
        case hy10 => (intro w hSw; (try dsimp only at hSw); go_simp; try with_reducible rfl)
        try simp only [Act.put, List.setIfInBounds_toArray, List.set_cons_zero, List.set_cons_succ]
        refine wpAnyH_take (i := 11) (oi := { dst := some 70, op := Op.build 37 #[(0, Operand.tmp 65), (1, Operand.tmp 69)], type := 37, pos := "law.go:139", after := #[{ on := 6, ground := Ground.data }, { on := 10, ground := Ground.data }], guard := none }) (v := ?v11) rfl (by kernel_rfl) (by kernel_rfl) (by kernel_rfl) (fun _ _ _ h => h) (Or.inl ⟨by rfl, ?hy11⟩) (by assumption) ?_
        case hy11 => (intro w hSw; (try dsimp only at hSw); go_simp; try with_reducible rfl)
        try simp only [Act.put, List.setIfInBounds_toArray, List.set_cons_zero, List.set_cons_succ]
        refine wpAnyH_ready (rs := [1, 12]) (by kernel_rfl) (by simp) ?_
        refine AllReadyH.cons (o := { dst := some 60, op := Op.load 23 (Operand.tmp 59), type := 23, pos := "law.go:139", after := #[{ on := 0, ground := Ground.data }], guard := none }) rfl ?_ (AllReadyH.cons (o := { dst := some 71, op := Op.buildSlice 23 1 #[(0, Operand.tmp 70)], type := 23, pos := "law.go:139", after := #[{ on := 11, ground := Ground.data }], guard := none }) rfl ?_ (AllReadyH.nil))
        · intro K hK
          rw [if_pos (by rfl)]
          have b1 := (HBX.out.below acc2 HLTW.out).2.1
          go_simp
          clear b1
          refine hK.out _ _ (KP.out _ acc2) (fun hHeld => ?_)
          clear hK K
          try simp only [Act.put, List.setIfInBounds_toArray, List.set_cons_zero, List.set_cons_succ]
          refine wpAnyH_ready (rs := [12]) (by kernel_rfl) (by simp) ?_
          refine AllReadyH.cons (o := { dst := some 71, op := Op.buildSlice 23 1 #[(0, Operand.tmp 70)], type := 23, pos := "law.go:139", after := #[{ on := 11, ground := Ground.data }], guard := none }) rfl (fun K hK => ?_) AllReadyH.nil
          rw [if_pos (by rfl)]
          go_simp
          obtain ⟨wb, hwb⟩ : ∃ W, W = (wr.alloc (.cells #[.string p, .string q] 37)).drew := ⟨_, rfl⟩
          rw [← hwb]
          have hk12 : wb.heap[wr.heap.size]? = some (.cells #[.string p, .string q] 37 (0, 0)) := by rw [hwb]; exact heap_alloc_new wr _
          clear acc2
          have acc2 : Below wr.heap.size wr wb := by rw [hwb]; exact ((Below.refl _ wr).alloc (Nat.le_refl _) _).drew
          clear hwb
          refine hK.out _ _ (KP.out _ acc2) (fun hHeld => ?_)
          clear hK K
          try simp only [Act.put, List.setIfInBounds_toArray, List.set_cons_zero, List.set_cons_succ]
          refine wpAnyH_ready (rs := [13]) (by kernel_rfl) (by simp) ?_
          refine AllReadyH.cons (o := { dst := some 72, op := Op.call { callee := Callee.builtin Builtin.append, args := #[Operand.tmp 60, Operand.tmp 71], argTypes := #[23, 23] }, type := 23, pos := "law.go:139", after := #[{ on := 1, ground := Ground.data }, { on := 12, ground := Ground.data }], guard := none }) rfl (fun K hK => ?_) AllReadyH.nil
          rw [if_pos (by rfl)]
          refine wpOp_append_link _ (.tmp 60) (.tmp 71) rfl w4.heap.size al nl cl Lk rfl (ownL_below HOL.out acc2) wr.heap.size p.data.toList q.data.toList rfl hk12 (by omega) (by have := acc2.size; have := HOF.out.size; omega) ?_
          intro g6 c6 w6 hown6 hb6
          have hkq := KQ.out w6 (hOFB acc2 hb6)
          refine hK.out _ _ (hkq) (fun hHeld => ?_)
          clear hK K
          try simp only [Act.put, List.setIfInBounds_toArray, List.set_cons_zero, List.set_cons_succ]
          refine wpAnyH_take (i := 14) (oi := { dst := some 73, op := Op.fieldAddr 26 (Operand.tmp 9) 1, type := 0, pos := "law.go:139", after := #[{ on := 0, ground := Ground.phase }, { on := 1, ground := Ground.phase }, { on := 2, ground := Ground.phase }, { on := 3, ground := Ground.phase }, { on := 4, ground := Ground.phase }, { on := 5, ground := Ground.phase }, { on := 6, ground := Ground.phase }, { on := 7, ground := Ground.phase }, { on := 8, ground := Ground.phase }, { on := 9, ground := Ground.phase }, { on := 10, ground := Ground.phase }, { on := 11, ground := Ground.phase }, { on := 12, ground := Ground.phase }, { on := 13, ground := Ground.phase }], guard := none }) (v := ?v12) rfl (by kernel_rfl) (by kernel_rfl) (by kernel_rfl) (fun _ _ _ h => h) (Or.inl ⟨by rfl, ?hy12⟩) (by assumption) ?_
          case hy12 => (intro w hSw; (try dsimp only at hSw); go_simp; try with_reducible rfl)
          try simp only [Act.put, List.setIfInBounds_toArray, List.set_cons_zero, List.set_cons_succ]
          refine wpAnyH_ready (rs := [15]) (by kernel_rfl) (by simp) ?_
          refine AllReadyH.cons (o := { dst := none, op := Op.store 23 (Operand.tmp 73) (Operand.tmp 72), type := 0, pos := "law.go:139", after := #[{ on := 14, ground := Ground.data }, { on := 13, ground := Ground.data }, { on := 13, ground := Ground.chain }, { on := 0, ground := Ground.phase }, { on := 1, ground := Ground.phase }, { on := 2, ground := Ground.phase }, { on := 3, ground := Ground.phase }, { on := 4, ground := Ground.phase }, { on := 5, ground := Ground.phase }, { on := 6, ground := Ground.phase }, { on := 7, ground := Ground.phase }, { on := 8, ground := Ground.phase }, { on := 9, ground := Ground.phase }, { on := 10, ground := Ground.phase }, { on := 11, ground := Ground.phase }, { on := 12, ground := Ground.phase }, { on := 13, ground := Ground.phase }], guard := none }) rfl (fun K hK => ?_) AllReadyH.nil
          rw [if_pos (by rfl)]
          have bb6 := (HBX.out.below acc2 HLTW.out).below hb6 HLT4.out
          have d1 := bb6.2.1
          have df1 := bb6.2.2.2 1
          go_simp
          clear d1 df1
          refine hK.out _ _ ((by obtain ⟨x0, x1⟩ := hkq; exact ⟨keep_other HNE.out x0, keep_other HNE.out x1⟩)) (fun hHeld => ?_)
          clear hK K
          try simp only [Act.put, List.setIfInBounds_toArray, List.set_cons_zero, List.set_cons_succ]
          refine wpAnyH_done (by kernel_rfl) ?_ _
          have HB6 := Lib.hid hb6
          have HO6 := Lib.hid hown6
          have BB6 := Lib.hid bb6
          have ACW := Lib.hid acc2
          clear hb6 hown6 bb6 acc2 hkq hk12 hwr hwr2 hsub hz0 hz1 hk2 hOFB
          go_wp2
          go_roundg (N - (k + 1))
          case measure => omega
          case rel =>
            have hof := (HOF.out.below ACW.out HOF.out.size).below HB6.out (Nat.le_refl _)
            have hlw := HLTW.out
            have hbl := (HB2.out.trans (ACW.out.mono (by omega))).trans (HB6.out.mono (Nat.le_of_lt HLT4.out))
            refine ⟨k + 1, nl + 1, c6, some ⟨g6, 0, none⟩, Lk ++ [(p.data.toList, q.data.toList)], by omega, by omega, by omega, by go_num, by omega, BB6.out.set1 _, ownsRow_setCell_below HO6.out (a := ⟨wy.heap.size + 1, 1, none⟩) HLT4.out _, hof.set 1 _, hbl.setCell (p := ⟨wy.heap.size + 1, 1, none⟩) (Nat.le_refl _) _, fun _ => ?_⟩
            rw [HPD.out, HQD.out]
            by_cases h2 : 2 ≤ k
            · exact List.mem_append_left _ (HM.out h2)
            · have hk11 : k = 1 := by omega
              subst hk11
              exact List.mem_append_right _ (by simp)
        · intro K hK
          rw [if_pos (by rfl)]
          go_simp
          obtain ⟨wb, hwb⟩ : ∃ W, W = (wr.alloc (.cells #[.string p, .string q] 37)).drew := ⟨_, rfl⟩
          rw [← hwb]
          have hk12 : wb.heap[wr.heap.size]? = some (.cells #[.string p, .string q] 37 (0, 0)) := by rw [hwb]; exact heap_alloc_new wr _
          clear acc2
          have acc2 : Below wr.heap.size wr wb := by rw [hwb]; exact ((Below.refl _ wr).alloc (Nat.le_refl _) _).drew
          clear hwb
          refine hK.out _ _ (KP.out _ acc2) (fun hHeld => ?_)
          clear hK K
          try simp only [Act.put, List.setIfInBounds_toArray, List.set_cons_zero, List.set_cons_succ]
          refine wpAnyH_ready (rs := [1]) (by kernel_rfl) (by simp) ?_
          refine AllReadyH.cons (o := { dst := some 60, op := Op.load 23 (Operand.tmp 59), type := 23, pos := "law.go:139", after := #[{ on := 0, ground := Ground.data }], guard := none }) rfl (fun K hK => ?_) AllReadyH.nil
          rw [if_pos (by rfl)]
          have b1 := (HBX.out.below acc2 HLTW.out).2.1
          go_simp
          clear b1
          refine hK.out _ _ (KP.out _ acc2) (fun hHeld => ?_)
          clear hK K
          try simp only [Act.put, List.setIfInBounds_toArray, List.set_cons_zero, List.set_cons_succ]
          refine wpAnyH_ready (rs := [13]) (by kernel_rfl) (by simp) ?_
          refine AllReadyH.cons (o := { dst := some 72, op := Op.call { callee := Callee.builtin Builtin.append, args := #[Operand.tmp 60, Operand.tmp 71], argTypes := #[23, 23] }, type := 23, pos := "law.go:139", after := #[{ on := 1, ground := Ground.data }, { on := 12, ground := Ground.data }], guard := none }) rfl (fun K hK => ?_) AllReadyH.nil
          rw [if_pos (by rfl)]
          refine wpOp_append_link _ (.tmp 60) (.tmp 71) rfl w4.heap.size al nl cl Lk rfl (ownL_below HOL.out acc2) wr.heap.size p.data.toList q.data.toList rfl hk12 (by omega) (by have := acc2.size; have := HOF.out.size; omega) ?_
          intro g6 c6 w6 hown6 hb6
          have hkq := KQ.out w6 (hOFB acc2 hb6)
          refine hK.out _ _ (hkq) (fun hHeld => ?_)
          clear hK K
          try simp only [Act.put, List.setIfInBounds_toArray, List.set_cons_zero, List.set_cons_succ]
          refine wpAnyH_take (i := 14) (oi := { dst := some 73, op := Op.fieldAddr 26 (Operand.tmp 9) 1, type := 0, pos := "law.go:139", after := #[{ on := 0, ground := Ground.phase }, { on := 1, ground := Ground.phase }, { on := 2, ground := Ground.phase }, { on := 3, ground := Ground.phase }, { on := 4, ground := Ground.phase }, { on := 5, ground := Ground.phase }, { on := 6, ground := Ground.phase }, { on := 7, ground := Ground.phase }, { on := 8, ground := Ground.phase }, { on := 9, ground := Ground.phase }, { on := 10, ground := Ground.phase }, { on := 11, ground := Ground.phase }, { on := 12, ground := Ground.phase }, { on := 13, ground := Ground.phase }], guard := none }) (v := ?v13) rfl (by kernel_rfl) (by kernel_rfl) (by kernel_rfl) (fun _ _ _ h => h) (Or.inl ⟨by rfl, ?hy13⟩) (by assumption) ?_
          case hy13 => (intro w hSw; (try dsimp only at hSw); go_simp; try with_reducible rfl)
          try simp only [Act.put, List.setIfInBounds_toArray, List.set_cons_zero, List.set_cons_succ]
          refine wpAnyH_ready (rs := [15]) (by kernel_rfl) (by simp) ?_
          refine AllReadyH.cons (o := { dst := none, op := Op.store 23 (Operand.tmp 73) (Operand.tmp 72), type := 0, pos := "law.go:139", after := #[{ on := 14, ground := Ground.data }, { on := 13, ground := Ground.data }, { on := 13, ground := Ground.chain }, { on := 0, ground := Ground.phase }, { on := 1, ground := Ground.phase }, { on := 2, ground := Ground.phase }, { on := 3, ground := Ground.phase }, { on := 4, ground := Ground.phase }, { on := 5, ground := Ground.phase }, { on := 6, ground := Ground.phase }, { on := 7, ground := Ground.phase }, { on := 8, ground := Ground.phase }, { on := 9, ground := Ground.phase }, { on := 10, ground := Ground.phase }, { on := 11, ground := Ground.phase }, { on := 12, ground := Ground.phase }, { on := 13, ground := Ground.phase }], guard := none }) rfl (fun K hK => ?_) AllReadyH.nil
          rw [if_pos (by rfl)]
          have bb6 := (HBX.out.below acc2 HLTW.out).below hb6 HLT4.out
          have d1 := bb6.2.1
          have df1 := bb6.2.2.2 1
          go_simp
          clear d1 df1
          refine hK.out _ _ ((by obtain ⟨x0, x1⟩ := hkq; exact ⟨keep_other HNE.out x0, keep_other HNE.out x1⟩)) (fun hHeld => ?_)
          clear hK K
          try simp only [Act.put, List.setIfInBounds_toArray, List.set_cons_zero, List.set_cons_succ]
          refine wpAnyH_done (by kernel_rfl) ?_ _
          have HB6 := Lib.hid hb6
          have HO6 := Lib.hid hown6
          have BB6 := Lib.hid bb6
          have ACW := Lib.hid acc2
          clear hb6 hown6 bb6 acc2 hkq hk12 hwr hwr2 hsub hz0 hz1 hk2 hOFB
          go_wp2
          go_roundg (N - (k + 1))
          case measure => omega
          case rel =>
            have hof := (HOF.out.below ACW.out HOF.out.size).below HB6.out (Nat.le_refl _)
            have hlw := HLTW.out
            have hbl := (HB2.out.trans (ACW.out.mono (by omega))).trans (HB6.out.mono (Nat.le_of_lt HLT4.out))
            refine ⟨k + 1, nl + 1, c6, some ⟨g6, 0, none⟩, Lk ++ [(p.data.toList, q.data.toList)], by omega, by omega, by omega, by go_num, by omega, BB6.out.set1 _, ownsRow_setCell_below HO6.out (a := ⟨wy.heap.size + 1, 1, none⟩) HLT4.out _, hof.set 1 _, hbl.setCell (p := ⟨wy.heap.size + 1, 1, none⟩) (Nat.le_refl _) _, fun _ => ?_⟩
            rw [HPD.out, HQD.out]
            by_cases h2 : 2 ≤ k
            · exact List.mem_append_left _ (HM.out h2)
            · have hk11 : k = 1 := by omega
              subst hk11
              exact List.mem_append_right _ (by simp)
      · have hkN : N = k := by omega
        subst hkN
        obtain ⟨wt, rfl⟩ : ∃ wt : World, wt = wr := ⟨_, rfl⟩
        have hmem := HM.out hN2
        have hP1 : P[1]! = (L ++ [pF])[0]! := by rw [HP.out]; rfl
        have hP0 : P[0]! = pA := by rw [HP.out]; rfl
        rw [hP1, hP0] at hmem
        obtain ⟨T, hTT⟩ : ∃ T : Topo, T = ⟨allT, Lk, [((pA, pF), L)]⟩ := ⟨_, rfl⟩
        have hb2 : Below w2.heap.size w2 wt := by have e := HZ2.out; rw [e]; exact HB2.out
        have hT : Tt wt ⟨some ⟨w.heap.size, 0, none⟩, 6, 6, al, nl, cl, some ⟨wy.heap.size, 0, none⟩, 1, 1⟩ T := by rw [hTT]; exact ⟨HALL2.out.below hb2, LinksAt.owns HOL.out, HWAY.out.below hb2, Nat.le_refl _, ownL_cap HOL.out, Nat.le_refl _⟩
        have hLA := HL2.out.below hb2
        have hLl := HLN.out
        have hltw : wy.heap.size + 1 < wt.heap.size := Nat.lt_of_lt_of_le HLT4.out HOF.out.size
        have keep : ∀ W, Below wt.heap.size wt W → W.cell? ⟨wy.heap.size + 1, 0, none⟩ = some (.slice (some ⟨w.heap.size, 0, none⟩) 6 6) ∧ W.cell? ⟨wy.heap.size + 1, 1, none⟩ = some (.slice al nl cl) ∧ W.cell? ⟨wy.heap.size + 1, 2, none⟩ = some (.slice (some ⟨wy.heap.size, 0, none⟩) 1 1) := fun W h => by obtain ⟨x0, x1, x2, _⟩ := HBX.out.below h hltw; exact ⟨x0, x1, x2⟩
        have hS : Short T := by rw [hTT]; exact p_short HMID.out (by omega)
        have ac1 : Below w1.heap.size w1 wt := AC2.out.trans (hb2.mono AC2.out.size)
        have ac0 : Below w.heap.size w wt := ACC1.out.trans (ac1.mono ACC1.out.size)
        have hgt := HG.out.below ac0
        obtain ⟨X, hX⟩ : ∃ X : ByteArray, X = ⟨P[1]!.toArray⟩ := ⟨_, rfl⟩
        have hXd : X.data.toList = (L ++ [pF])[0]! := by rw [hX]; exact hP1
        have hcp : ∀ W, Below wt.heap.size wt W → W.cell? ⟨gP, 1, none⟩ = some (.string X) := fun W h => by rw [hX]; exact HPC.out W (HOF.out.below h HOF.out.size) 1 (by omega)
        have hnx : nextOf T pA pF = some X.data.toList := by rw [hTT, hXd]; exact p_next hmem
        have hvia : viaOf T pA pF = L := by rw [hTT]; exact p_via
        have hNXT : ∀ W, Below wt.heap.size wt W → Calls Tryd.prog 24 #[.agg #[.slice (some ⟨w.heap.size, 0, none⟩) 6 6, .slice al nl cl, .slice (some ⟨wy.heap.size, 0, none⟩) 1 1], .string ⟨#[65]⟩, .string ⟨#[70]⟩] W fun e w' => e = .returned (.tuple #[.string X, .bool true]) ∧ Below W.heap.size W w' := fun W h => by
          refine (next_any W ⟨some ⟨w.heap.size, 0, none⟩, 6, 6, al, nl, cl, some ⟨wy.heap.size, 0, none⟩, 1, 1⟩ T ⟨#[65]⟩ ⟨#[70]⟩ (hT.below h) hS (by dsimp only; omega) (hgt.below h) (by decide) (by decide)).mono ?_
          rintro e w' ⟨rfl, hb⟩
          exact ⟨by show nextV (nextOf T pA pF) = _; rw [hnx]; rfl, hb⟩
        have hVG : ∀ W, Below wt.heap.size wt W → ∀ V', viaOf T pA pF = V' → V'.length = nL → Calls Tryd.prog 25 #[.agg #[.slice (some ⟨w.heap.size, 0, none⟩) 6 6, .slice al nl cl, .slice (some ⟨wy.heap.size, 0, none⟩) 1 1], .string ⟨#[65]⟩, .string ⟨#[70]⟩] W fun e w' => ∃ av cv, e = .returned (.slice av nL cv) ∧ w'.ownsRow W.heap.size 9 1 (.slice av nL cv) nL (strs V') ∧ Below W.heap.size W w' := fun W h V' h1 h2 => by
          subst h1
          rw [← h2]
          exact via_any W ⟨some ⟨w.heap.size, 0, none⟩, 6, 6, al, nl, cl, some ⟨wy.heap.size, 0, none⟩, 1, 1⟩ T ⟨#[65]⟩ ⟨#[70]⟩ (hT.below h) hS (hgt.below h) (by decide) (by decide)
        have hAL : ∀ W, Below wt.heap.size wt W → ∀ ad n c L' r, At W ad n L' → n ≤ 4611686018427387904 → allowedOf T pA pF L' = r → Calls Tryd.prog 26 #[.agg #[.slice (some ⟨w.heap.size, 0, none⟩) 6 6, .slice al nl cl, .slice (some ⟨wy.heap.size, 0, none⟩) 1 1], .string ⟨#[65]⟩, .string ⟨#[70]⟩, .slice ad n c] W fun e w' => e = .returned (.bool r) ∧ Below W.heap.size W w' := fun W h ad n c L' r h1 h2 h3 => by
          subst h3
          exact allowed_any W ⟨some ⟨w.heap.size, 0, none⟩, 6, 6, al, nl, cl, some ⟨wy.heap.size, 0, none⟩, 1, 1⟩ T ⟨#[65]⟩ ⟨#[70]⟩ ad n c L' (hT.below h) hS (hgt.below h) (by decide) (by decide) h1 h2
        have hAF : ∀ W, Below wt.heap.size wt W → Calls Tryd.prog 26 #[.agg #[.slice (some ⟨w.heap.size, 0, none⟩) 6 6, .slice al nl cl, .slice (some ⟨wy.heap.size, 0, none⟩) 1 1], .string ⟨#[70]⟩, .string ⟨#[65]⟩, .slice none 0 0] W fun e w' => e = .returned (.bool true) ∧ Below W.heap.size W w' := fun W h =>
          allowed_any W ⟨some ⟨w.heap.size, 0, none⟩, 6, 6, al, nl, cl, some ⟨wy.heap.size, 0, none⟩, 1, 1⟩ T ⟨#[70]⟩ ⟨#[65]⟩ none 0 0 [] (hT.below h) hS (hgt.below h) (by decide) (by decide) (At.nil _ _) (by decide)
        obtain ⟨m, hm, hm4⟩ : ∃ m : Nat, other % 4 = (m : Int) ∧ m < 4 := ⟨(other % 4).toNat, by omega, by omega⟩
        have hand := i64_and3 other
        rw [hm] at hand
        obtain ⟨j, hj⟩ : ∃ j, j = 1 + m := ⟨_, rfl⟩
        have hwr : IntKind.i64.wrap (1 + (m : Int)) = (j : Int) := by rw [IntKind.wrap_i64]; omega
        have hwr2 : IntKind.i64.wrap (j : Int) = (j : Int) := by rw [IntKind.wrap_i64]; omega
        have hj6 : (j : Int) < 6 := by omega
        have hj0 : (0 : Int) ≤ (j : Int) := by omega
        obtain ⟨oo, hoo⟩ : ∃ x : ByteArray, x = ⟨allT[j]!.toArray⟩ := ⟨_, rfl⟩
        have ca := HCELL.out wt ac1 j (by omega)
        rw [← hoo] at ca
        obtain ⟨qb, hqb⟩ : ∃ qb, qb = decide (oo.data.toList ∈ L) := ⟨_, rfl⟩
        obtain ⟨PL, hPL⟩ : ∃ PL, PL = placeOf L oo.data.toList := ⟨_, rfl⟩
        have hpp := place_pos L oo.data.toList
        rw [← hPL, ← hqb] at hpp
        have HPLO := Lib.hid hPL.symm
        have h1 : allowedOf T pA pF L = true := by rw [hTT]; exact p_all
        have h2 : allowedOf T pA pF [oo.data.toList] = qb := by rw [hTT, hqb]; exact p_one _
        have h3 : allowedOf T pA pF [pA] = false := by rw [hTT]; exact p_not HMID.out
        have H1 := Lib.hid h1
        have H2 := Lib.hid h2
        have H3 := Lib.hid h3
        have HNXT := Lib.hid hNXT
        have HVI := Lib.hid (fun W h => hVG W h L hvia hLl)
        have HAL := Lib.hid hAL
        have HAF := Lib.hid hAF
        have HLA := Lib.hid hLA
        have KEEP := Lib.hid keep
        have CP1 := Lib.hid hcp
        have HGT := Lib.hid hgt
        have AC0 := Lib.hid ac0
        have h1N : (1 : Int) < (N : Int) := by omega
        have h1N2 : 1 < N := by omega
        have acc : Below wt.heap.size wt wt := Below.refl _ _
        obtain ⟨a0, a1, a2⟩ := KEEP.out wt acc
        have t1 : True := trivial
        have t2 : True ∧ True := ⟨trivial, trivial⟩
        have t3 : True ∧ True ∧ True := ⟨trivial, trivial, trivial⟩
        clear HM hmem hP1 hP0 hTT hb2 hT hLA hLl hltw keep hS ac1 ac0 hgt hX hXd hcp hnx hvia hNXT hVG hAL hAF hm hm4 hj hoo hqb hPL h1 h2 h3 HBX HOL HOF HB2
        go_wp2_with (first
          | (go_at_call 24; refine (HNXT.out _ acc).mono ?_; rintro e w6 ⟨rfl, hb⟩; replace acc := acc.trans (hb.mono acc.size); clear hb a0 a1 a2; obtain ⟨a0, a1, a2⟩ := KEEP.out w6 acc; have cp := CP1.out w6 acc)
          | (go_at_call 25; refine (HVI.out _ acc).mono ?_; rintro e w7 ⟨av, cv, rfl, ho, hb⟩; replace acc := acc.trans (hb.mono acc.size); clear hb a0 a1 a2 cp; obtain ⟨a0, a1, a2⟩ := KEEP.out w7 acc)
          | (go_at_call 22; refine (texts_any _ av aL nL cv nL cL L L (At.owns ho) (HLA.out.below acc) (by omega) (by omega)).mono ?_; rintro e w8 ⟨rfl, hb⟩; rw [decide_eq_true (rfl : L = L)]; replace acc := acc.trans (hb.mono acc.size); clear hb ho a0 a1 a2; obtain ⟨a0, a1, a2⟩ := KEEP.out w8 acc)
          | (go_at_call 26; have _t := t1; refine (HAL.out _ acc aL nL cL L true (HLA.out.below acc) (by omega) H1.out).mono ?_; rintro e w9 ⟨rfl, hb⟩; replace acc := acc.trans (hb.mono acc.size); clear hb t1 a0 a1 a2; obtain ⟨a0, a1, a2⟩ := KEEP.out w9 acc)
          | (go_at_call 26; have _t := t2; refine (HAL.out _ (acc.alloc acc.size _) _ 1 1 [oo.data.toList] qb (at_block (l := [oo.data.toList]) (heap_alloc_new _ _)) (by omega) H2.out).mono ?_; rintro e w10 ⟨rfl, hb⟩; replace acc := (acc.alloc acc.size _).trans (hb.mono (acc.alloc acc.size _).size); clear hb t2 a0 a1 a2; obtain ⟨a0, a1, a2⟩ := KEEP.out w10 acc)
          | (go_at_call 18; refine (place_any _ aL nL cL L oo (HLA.out.below acc) (by omega)).mono ?_; rintro e w11 ⟨rfl, hq⟩; rw [HPLO.out]; replace acc := (show Below wt.heap.size wt w11 by obtain ⟨q, rfl⟩ := hq; exact below_drewN acc q); clear hq a0 a1 a2; obtain ⟨a0, a1, a2⟩ := KEEP.out w11 acc)
          | (go_at_call 26; have _t := t3; refine (HAL.out _ (acc.alloc acc.size _) _ 1 1 [pA] false (at_block (l := [pA]) (heap_alloc_new _ _)) (by omega) H3.out).mono ?_; rintro e w12 ⟨rfl, hb⟩; replace acc := (acc.alloc acc.size _).trans (hb.mono (acc.alloc acc.size _).size); clear hb t3 a0 a1 a2; obtain ⟨a0, a1, a2⟩ := KEEP.out w12 acc)
          | (go_at_call 26; refine (HAF.out _ acc).mono ?_; rintro e w13 ⟨rfl, hb⟩; replace acc := acc.trans (hb.mono acc.size); clear hb a0 a1 a2)
          | (go_at_call 14; refine (known_any _ (HGT.out.below acc)).mono ?_; rintro e w14 ⟨rfl, hb⟩; replace acc := acc.trans (hb.mono acc.size); clear hb))
        go_ret
        exact ⟨rfl, AC0.out.trans (acc.mono AC0.out.size)⟩

/-! ### the argument -/
section
open Go.ChangeShapes Go.WideShapes Go.ChangeAt Go.ChangeMaps Go.Joins Go.Deep
theorem laidOut : laidOutB Tryd.prog = true := by kernel_rfl
theorem cells_num : Tryd.prog.cellsOf 3 = 1 := by kernel_rfl
theorem open_nums {H : Type} {enc : TypeId × Value → H} {w : World} {base : Nat} {spare : Nat → Bool} {held : Bool} {r : Reach} {b0 : Nat} {v : Value} {d : DataW H} {p : List MemPlace} (hv : Value.okWide Tryd.prog w r b0 47 v) (h : DataW.Trod enc Tryd.prog w base spare held 47 v d p) :
    ∃ ad n c z, v = .slice ad n c ∧ IntsAt w ad n z := by
  obtain ⟨ad, n, c, rfl⟩ := okWide_slice Tryd.underlying47 hv
  obtain ⟨fuel, hf⟩ := h
  rcases open_ints Tryd.underlying47 Tryd.underlying3 cells_num hf with ⟨hcs, hx⟩ | ⟨a, len, cap, zs, hcs, _, hl, hm, hz, hx, hcell, hsz⟩
  · simp only [Value.cells, List.cons.injEq, Value.slice.injEq, and_true] at hcs
    obtain ⟨rfl, rfl, rfl⟩ := hcs
    exact ⟨none, 0, 0, [], rfl, ⟨rfl, fun h => absurd h (Nat.lt_irrefl 0)⟩⟩
  · simp only [Value.cells, List.cons.injEq, Value.slice.injEq, and_true] at hcs
    obtain ⟨rfl, rfl, rfl⟩ := hcs
    have hlen : n ≤ zs.length := by rw [hz]; split <;> omega
    refine ⟨some a, n, c, zs.take n, rfl, ⟨by simp; omega, fun hn => ?_⟩⟩
    obtain ⟨b, off, spot⟩ := a
    have h00 := hcell 0 (by omega)
    have hspot : spot = none := by simpa [Addr.add] using World.cell?_spot h00
    subst hspot
    refine ⟨b, off, rfl, ?_, fun j hj => ?_⟩
    · have := World.block_lt_of_cell? w _ h00
      simpa [Addr.add] using this
    · have hc := hcell j (by omega)
      rw [Go.WideShapes.add_plain] at hc
      rw [hc, getElem!_pos _ j (by simp; omega)]
      simp only [List.getElem_take]
      rw [List.getD_eq_getElem?_getD, List.getElem?_eq_getElem (by omega)]
      rfl
end
end Go.Proofs.YtcleonpckgfdhaaDoor
