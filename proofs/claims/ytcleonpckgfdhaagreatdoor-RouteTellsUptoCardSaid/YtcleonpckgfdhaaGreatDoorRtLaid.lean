/-
  route.laid, Via: the way that is laid down between two, or what stands between them.
-/
import Derived.Test.YtcleonpckgfdhaaGreatDoorRtLinked
import Derived.Test.YtcleonpckgfdhaaGreatDoorBetw
set_option linter.unusedVariables false
set_option linter.unusedSimpArgs false
set_option maxRecDepth 100000
namespace Go.Proofs.YtcleonpckgfdhaaGreatDoor
open Go Go.RowKit Go.Lib Go.Shelf

theorem containsB_any (w : World) (ad : Option Addr) (n c : Nat) (l : List Str) (y : ByteArray) (hA : At w ad n l) (hn : n ≤ 100000) :
    Calls Tryz.prog 25 #[.slice ad n c, .string y] w fun e w' => e = .returned (.bool (decide (y.data.toList ∈ l))) ∧ w' = w :=
  contains_any w ad n c l y.data.toList hA hn

theorem eq_bytes (x y : ByteArray) : (x.toList == y.toList) = decide (x.data.toList = y.data.toList) := by
  rw [ByteArray.toList_eq, ByteArray.toList_eq, Bool.eq_iff_iff]
  simp

theorem laid1_any (W : World) (p q : Nat) (a b f t : ByteArray) (av : Option Addr) (nv cv : Nat) (hp : p < W.heap.size) (hq : q < W.heap.size) (ha : W.cell? ⟨p, 0, none⟩ = some (.string a)) (hb : W.cell? ⟨q, 0, none⟩ = some (.string b)) :
    Calls Tryz.prog 34 #[.agg #[.string f, .string t, .slice av nv cv], .pointer (some ⟨p, 0, none⟩), .pointer (some ⟨q, 0, none⟩)] W fun e w' => e = .returned (.bool (decide ((f.data.toList, t.data.toList) = (a.data.toList, b.data.toList)))) ∧ Below W.heap.size W w' := by
  have k1 := eq_bytes f a
  have k2 := eq_bytes t b
  have hne : p ≠ W.heap.size := by omega
  have hne2 : q ≠ W.heap.size := by omega
  by_cases h1 : f.data.toList = a.data.toList
  · by_cases h2 : t.data.toList = b.data.toList
    · have hr : decide ((f.data.toList, t.data.toList) = (a.data.toList, b.data.toList)) = true := by simp [h1, h2]
      rw [decide_eq_true h1] at k1
      rw [decide_eq_true h2] at k2
      rw [hr]
      clear h1 h2 hr
      go_enter Tryz.func34, Tryz.ntmps34
      go_wp2
      go_ret
      exact ⟨rfl, (Below.refl _ _).alloc (Nat.le_refl _) _⟩
    · have hr : decide ((f.data.toList, t.data.toList) = (a.data.toList, b.data.toList)) = false := by simp [h1, h2]
      rw [decide_eq_true h1] at k1
      rw [decide_eq_false h2] at k2
      rw [hr]
      clear h1 h2 hr
      go_enter Tryz.func34, Tryz.ntmps34
      go_wp2
      go_ret
      exact ⟨rfl, (Below.refl _ _).alloc (Nat.le_refl _) _⟩
  · have hr : decide ((f.data.toList, t.data.toList) = (a.data.toList, b.data.toList)) = false := by simp [h1]
    rw [decide_eq_false h1] at k1
    rw [hr]
    clear h1 hr k2
    go_enter Tryz.func34, Tryz.ntmps34
    go_wp2
    go_ret
    exact ⟨rfl, (Below.refl _ _).alloc (Nat.le_refl _) _⟩

/-- Where the first way between two stands. -/
def FirstAt (P : List Way) (a b : Str) (r : Int) : Prop := (r = -1 ∧ ∀ p ∈ P, p.1 ≠ (a, b)) ∨ ∃ k : Nat, r = k ∧ k < P.length ∧ P[k]!.1 = (a, b) ∧ ∀ j, j < k → P[j]!.1 ≠ (a, b)
theorem first_cases (P : List Way) (a b : Str) : ∃ r, FirstAt P a b r := by
  by_cases h : ∀ p ∈ P, p.1 ≠ (a, b)
  · exact ⟨-1, .inl ⟨rfl, h⟩⟩
  · have hex : ∃ k, k < P.length ∧ P[k]!.1 = (a, b) := by
      simp only [ne_eq, Classical.not_forall, Decidable.not_not] at h
      obtain ⟨p, hp, e⟩ := h
      obtain ⟨k, hk, rfl⟩ := List.getElem_of_mem hp
      exact ⟨k, hk, by rw [getElem!_pos P k hk]; exact e⟩
    obtain ⟨n, hn⟩ := hex
    have : ∀ m, (∃ k, k < m ∧ k < P.length ∧ P[k]!.1 = (a, b)) → ∃ k : Nat, k < P.length ∧ P[k]!.1 = (a, b) ∧ ∀ j, j < k → P[j]!.1 ≠ (a, b) := fun m => by
      induction m with
      | zero => rintro ⟨k, hk, _⟩; omega
      | succ m ih =>
        rintro ⟨k, hk, hk2, e⟩
        by_cases h2 : ∃ k, k < m ∧ k < P.length ∧ P[k]!.1 = (a, b)
        · exact ih h2
        · refine ⟨k, hk2, e, fun j hj ej => h2 ⟨j, by omega, by omega, ej⟩⟩
    obtain ⟨k, h1, h2, h3⟩ := this (n + 1) ⟨n, by omega, hn⟩
    exact ⟨k, .inr ⟨k, rfl, h1, h2, h3⟩⟩
theorem FirstAt.one {P : List Way} {a b : Str} {r s : Int} (h : FirstAt P a b r) (h' : FirstAt P a b s) : r = s := by
  rcases h with ⟨e, h⟩ | ⟨k, e, hk, h1, h2⟩ <;> rcases h' with ⟨e', h'⟩ | ⟨k', e', hk', h1', h2'⟩
  · rw [e, e']
  · exact absurd h1' (h _ (by rw [getElem!_pos P k' hk']; exact List.getElem_mem _))
  · exact absurd h1 (h' _ (by rw [getElem!_pos P k hk]; exact List.getElem_mem _))
  · have : ¬ k < k' := fun hl => h2' k hl h1
    have : ¬ k' < k := fun hl => h2 k' hl h1'
    omega

theorem find_at {α : Type} [Inhabited α] (p : α → Bool) (l : List α) (k : Nat) (hk : k < l.length) (h1 : p l[k]! = true) (h2 : ∀ j, j < k → p l[j]! = false) : l.find? p = some l[k]! := by
  have e0 : l.find? p = (l.take k ++ l.drop k).find? p := by rw [List.take_append_drop]
  rw [e0, List.find?_append]
  have : (l.take k).find? p = none := by
    rw [List.find?_eq_none]
    intro x hx
    obtain ⟨j, hj, rfl⟩ := List.getElem_of_mem hx
    simp only [List.length_take] at hj
    have := h2 j (by omega)
    rw [getElem!_pos l j (by omega)] at this
    rw [List.getElem_take, this]
    simp
  rw [this, List.drop_eq_getElem_cons hk]
  rw [getElem!_pos l k hk] at h1 ⊢
  rw [List.find?_cons_of_pos h1]
  rfl

set_option maxHeartbeats 1000000 in
theorem laidIx_any (w : World) (ad : Option Addr) (n c : Nat) (P : List Way) (p q : Nat) (a b : ByteArray) (hP : WaysAt w ad n P) (hn : n ≤ 4611686018427387904) (hp : p < w.heap.size) (hq : q < w.heap.size) (ha : w.cell? ⟨p, 0, none⟩ = some (.string a)) (hb : w.cell? ⟨q, 0, none⟩ = some (.string b)) :
    Calls Tryz.prog 33 #[.slice ad n c, .func (.func 34) #[] #[.pointer (some ⟨p, 0, none⟩), .pointer (some ⟨q, 0, none⟩)]] w fun e w' => ∃ r : Int, e = .returned (.int .i64 r) ∧ FirstAt P a.data.toList b.data.toList r ∧ Below w.heap.size w w' := by
  have eg : ∀ args w, (callFunc 34 args).run Tryz.prog w = .ok (.enter 34 args) w := enters_of Tryz.func34 (by kernel_rfl) rfl
  have HP := Lib.hid hP
  have HA := Lib.hid ha
  have HBB := Lib.hid hb
  clear hP ha hb
  go_enter Tryz.func33, Tryz.ntmps33
  go_wp2
  go_loopg [8] n (fun gg s8 wr => ∃ k : Nat, k ≤ n ∧ n - k ≤ gg ∧ s8 = .int .i64 k ∧ Aside (∀ j, j < k → P[j]!.1 ≠ (a.data.toList, b.data.toList)) ∧ Aside (Below w.heap.size w wr))
  case atStart => exact ⟨0, by omega, by omega, rfl, fun j hj => absurd hj (Nat.not_lt_zero _), Below.refl _ _⟩
  case round =>
    obtain ⟨k, hk, hgg, rfl, HK, HB⟩ := hrel
    by_cases hlt : k < n
    · have hltz : (k : Int) < (n : Int) := by omega
      obtain ⟨bb, off, hb, hbl, hc⟩ := HP.out.cell (by omega)
      obtain ⟨av, nv, cv, h1, h2, h3, _, _⟩ := hc k hlt
      obtain ⟨x, hx⟩ : ∃ x : ByteArray, x = ⟨P[k]!.1.1.toArray⟩ := ⟨_, rfl⟩
      obtain ⟨y, hy⟩ : ∃ y : ByteArray, y = ⟨P[k]!.1.2.toArray⟩ := ⟨_, rfl⟩
      have hxy : (x.data.toList, y.data.toList) = P[k]!.1 := by rw [hx, hy]
      rw [← hx] at h1
      rw [← hy] at h2
      have c0 := (HB.out.cell (p := ⟨bb, off + k * 3, none⟩) hbl).trans h1
      have c1 := (HB.out.cell (p := ⟨bb, off + k * 3 + 1, none⟩) hbl).trans h2
      have c2 := (HB.out.cell (p := ⟨bb, off + k * 3 + 2, none⟩) hbl).trans h3
      have hC := laid1_any wr p q a b x y av nv cv (Nat.lt_of_lt_of_le hp HB.out.size) (Nat.lt_of_lt_of_le hq HB.out.size) ((HB.out.cell (p := ⟨p, 0, none⟩) hp).trans HA.out) ((HB.out.cell (p := ⟨q, 0, none⟩) hq).trans HBB.out)
      rw [hxy] at hC
      subst hb
      clear hc h1 h2 h3 hx hy hxy
      by_cases hw : P[k]!.1 = (a.data.toList, b.data.toList)
      · rw [decide_eq_true hw] at hC
        have HF := Lib.hid hw
        clear hw
        go_wp2_with (go_at_call 34; refine hC.mono ?_; rintro e w2 ⟨rfl, hb2⟩)
        go_ret
        exact ⟨k, rfl, .inr ⟨k, rfl, by rw [HP.out.len]; exact hlt, HF.out, HK.out⟩, HB.out.trans (hb2.mono HB.out.size)⟩
      · rw [decide_eq_false hw] at hC
        have HW := Lib.hid hw
        clear hw
        go_wp2_with (go_at_call 34; refine hC.mono ?_; rintro e w2 ⟨rfl, hb2⟩)
        go_roundg (n - (k + 1))
        case measure => omega
        case rel =>
          refine ⟨k + 1, by omega, by omega, by go_num, fun j hj => ?_, HB.out.trans (hb2.mono HB.out.size)⟩
          by_cases e : j = k
          · subst e; exact HW.out
          · exact HK.out j (by omega)
    · have hk : k = n := by omega
      subst hk
      have hnone : ∀ p ∈ P, p.1 ≠ (a.data.toList, b.data.toList) := by
        intro p' hm
        obtain ⟨j, hj, rfl⟩ := List.getElem_of_mem hm
        have := HK.out j (by rw [← HP.out.len]; exact hj)
        rw [getElem!_pos P j hj] at this
        exact this
      have HN := Lib.hid hnone
      clear hnone
      go_wp2
      go_ret
      exact ⟨-1, rfl, .inl ⟨rfl, HN.out⟩, HB.out⟩

def LaidPost (w w' : World) (r : Option (List Str)) (e : Ending) : Prop := match r with
  | none => e = .returned (.tuple #[.slice none 0 0, .bool false]) ∧ Below w.heap.size w w'
  | some v => ∃ ad c, e = .returned (.tuple #[.slice ad v.length c, .bool true]) ∧ w'.ownsRow w.heap.size 9 1 (.slice ad v.length c) v.length (strs v) ∧ Below w.heap.size w w'

/-- The ways' rows are small. -/
def Short (T : Topo) : Prop := T.paths.length ≤ 100000 ∧ ∀ p ∈ T.paths, p.2.length ≤ 100000 ∧ ∀ r ∈ p.2, r.length < 90000

set_option maxHeartbeats 1000000 in
theorem laid_any (w : World) (v : Tv) (T : Topo) (a b : ByteArray) (hT : Tt w v T) (hS : Short T) :
    Calls Tryz.prog 22 #[.agg #[.slice v.ar v.nr v.cr, .slice v.al v.nl v.cl, .slice v.ap v.np v.cp], .string a, .string b] w fun e w' => LaidPost w w' (laidOf T a.data.toList b.data.toList) e := by
  have HP := Lib.hid hT.p
  have HS := Lib.hid hS
  obtain ⟨w1, hw1⟩ : ∃ w1, w1 = ((w.alloc (.cells #[.slice v.ar v.nr v.cr, .slice v.al v.nl v.cl, .slice v.ap v.np v.cp] 26)).alloc (.cells #[.string a] 9)).alloc (.cells #[.string b] 9) := ⟨_, rfl⟩
  have acc : Below w.heap.size w w1 := by rw [hw1]; exact ((((Below.refl _ _).alloc (Nat.le_refl _) _).alloc (by simp) _).alloc (by simp; omega) _)
  have hz : w1.heap.size = w.heap.size + 3 := by rw [hw1]; simp
  have hn : v.np ≤ 100000 := by rw [← HP.out.len]; exact HS.out.1
  have hI := laidIx_any w1 v.ap v.np v.cp T.paths (w.heap.size + 1) (w.heap.size + 2) a b (HP.out.below acc) (by omega) (by omega) (by omega) (by rw [hw1]; exact cell_old _ (cell_new (by simp) _ _ rfl)) (by rw [hw1]; exact cell_new (by simp) _ _ rfl)
  rw [hw1] at hI
  have HW := Lib.hid hw1
  have HZ := Lib.hid hz
  have ACC := Lib.hid acc
  clear hT hS hw1 acc hz
  have e2 : w1.cell? ⟨w.heap.size, 2, none⟩ = some (.slice v.ap v.np v.cp) := by rw [HW.out]; exact cell_old _ (cell_old _ (cell_new (by simp) _ _ rfl))
  have E2 := Lib.hid e2
  clear e2
  have hone : ∀ (k : Nat) (w2 : World), k < v.np → Below w1.heap.size w1 w2 → ∃ bb off av nv cv, v.ap = some ⟨bb, off, none⟩ ∧ w2.cell? ⟨bb, off + k * 3 + 2, none⟩ = some (.slice av nv cv) ∧ At w2 av nv T.paths[k]!.2 ∧ nv ≤ 100000 ∧ nv = T.paths[k]!.2.length ∧ w2.cell? ⟨w.heap.size, 2, none⟩ = some (.slice v.ap v.np v.cp) := fun k w2 hk hb => by
    obtain ⟨bb, off, hbb, hlt, hc⟩ := (HP.out.below ACC.out).cell (by omega)
    obtain ⟨av, nv, cv, _, _, h3, h4, _⟩ := hc k hk
    have hmem : T.paths[k]! ∈ T.paths := by rw [getElem!_pos T.paths k (by rw [HP.out.len]; exact hk)]; exact List.getElem_mem _
    refine ⟨bb, off, av, nv, cv, hbb, (hb.cell (p := ⟨bb, off + k * 3 + 2, none⟩) hlt).trans h3, h4.below hb, ?_, h4.len.symm, (hb.cell (p := ⟨w.heap.size, 2, none⟩) (by rw [HZ.out]; show w.heap.size < _; omega)).trans E2.out⟩
    rw [← h4.len]
    exact (HS.out.2 _ hmem).1
  have HONE := Lib.hid hone
  clear hone
  obtain ⟨r, hr⟩ := first_cases T.paths a.data.toList b.data.toList
  have hI2 := hI.mono fun e w' (h : ∃ r', e = .returned (.int .i64 r') ∧ FirstAt T.paths a.data.toList b.data.toList r' ∧ Below _ _ w') => (⟨by obtain ⟨r', h1, h2, _⟩ := h; rw [h1, h2.one hr], by obtain ⟨r', _, _, h3⟩ := h; exact h3⟩ : e = .returned (.int .i64 r) ∧ Below _ _ w')
  clear hI
  rcases hr with ⟨rfl, h⟩ | ⟨k, rfl, hk, hk1, hk2⟩
  · have hR : laidOf T a.data.toList b.data.toList = none := laid_none.2 h
    rw [hR]
    clear hR h
    go_enter Tryz.func22, Tryz.ntmps22
    go_wp2_with (go_at_call 33; refine hI2.mono ?_; rintro e w2 ⟨rfl, hb⟩; rw [← HW.out] at hb)
    go_ret2
    exact ⟨rfl, ACC.out.trans (hb.mono ACC.out.size)⟩
  · have hR : laidOf T a.data.toList b.data.toList = some T.paths[k]!.2 := by
      unfold laidOf
      rw [find_at _ T.paths k hk (decide_eq_true hk1) (fun j hj => decide_eq_false (hk2 j hj))]
      rfl
    have hkn : k < v.np := by rw [← HP.out.len]; exact hk
    have hkz : ¬ (k : Int) < 0 := by omega
    rw [hR]
    clear hR hk1 hk2 hk
    go_enter Tryz.func22, Tryz.ntmps22
    go_wp2_with (first
      | (go_at_call 33; refine hI2.mono ?_; rintro e w2 ⟨rfl, hb⟩; rw [← HW.out] at hb; obtain ⟨bb, off, av, nv, cv, hap, c2, hA, hn2, hn3, b2⟩ := HONE.out k w2 hkn hb; have HN3 := Lib.hid hn3; clear hn3)
      | (go_at_call 35; refine (clone_any _ _ _ _ _ hA hn2).mono ?_; rintro e w3 ⟨ad, c, rfl, ho, _, hb3⟩))
    go_ret2
    have h2 := ACC.out.trans (hb.mono ACC.out.size)
    have ho2 := Joins.ownsRow_le ho h2.size
    have hbb := h2.trans (hb3.mono h2.size)
    have e3 := HN3.out
    generalize T.paths[k]!.2 = vv at e3 ho2 ⊢
    subst e3
    exact ⟨ad, c, rfl, ho2, hbb⟩

theorem via_any (w : World) (v : Tv) (T : Topo) (a b : ByteArray) (hT : Tt w v T) (hS : Short T) (hg : Glob w) (ha : a.size < 90000) (hb : b.size < 90000) :
    Calls Tryz.prog 14 #[.agg #[.slice v.ar v.nr v.cr, .slice v.al v.nl v.cl, .slice v.ap v.np v.cp], .string a, .string b] w fun e w' => ∃ ad c, e = .returned (.slice ad (viaOf T a.data.toList b.data.toList).length c) ∧ w'.ownsRow w.heap.size 9 1 (.slice ad (viaOf T a.data.toList b.data.toList).length c) (viaOf T a.data.toList b.data.toList).length (strs (viaOf T a.data.toList b.data.toList)) ∧ Below w.heap.size w w' := by
  have hL := fun w hT => laid_any w v T a b hT hS
  have HT := Lib.hid hT
  have HG := Lib.hid hg
  have acc : Below w.heap.size w (w.alloc (.cells #[.slice v.ar v.nr v.cr, .slice v.al v.nl v.cl, .slice v.ap v.np v.cp] 26)) := (Below.refl _ _).alloc (Nat.le_refl _) _
  have HAC := Lib.hid acc
  unfold viaOf
  unfold LaidPost at hL
  generalize laidOf T a.data.toList b.data.toList = R at hL ⊢
  clear hT hg hS
  cases R with
  | some r =>
    simp only at hL ⊢
    go_enter Tryz.func14, Tryz.ntmps14
    go_wp2_with (go_at_call 22; refine (hL _ (HT.out.below acc)).mono ?_; rintro e w2 ⟨ad, c, rfl, ho, hb2⟩)
    go_ret
    exact ⟨ad, c, rfl, Joins.ownsRow_le ho HAC.out.size, HAC.out.trans (hb2.mono HAC.out.size)⟩
  | none =>
    simp only at hL ⊢
    go_enter Tryz.func14, Tryz.ntmps14
    go_wp2_with (first
      | (go_at_call 22; refine (hL _ (HT.out.below acc)).mono ?_; rintro e w2 ⟨rfl, hb2⟩; replace acc := acc.trans (hb2.mono acc.size))
      | (go_at_call 27; refine (between_any _ a b (HG.out.below acc) ha hb).mono ?_; rintro e w3 ⟨ad, c, rfl, ho, hb3⟩))
    go_ret
    exact ⟨ad, c, rfl, Joins.ownsRow_le ho acc.size, acc.trans (hb3.mono acc.size)⟩
end Go.Proofs.YtcleonpckgfdhaaGreatDoor
