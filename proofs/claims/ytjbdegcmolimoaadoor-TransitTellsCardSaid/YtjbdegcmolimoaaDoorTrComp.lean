/-
  transit.Compress.
-/
import Derived.Test.YtjbdegcmolimoaaDoorTrCf
import Derived.Test.YtjbdegcmolimoaaDoorSplit
set_option linter.unusedVariables false
set_option linter.unusedSimpArgs false
namespace Go.Proofs.YtjbdegcmolimoaaDoor
open Go Go.RowKit Go.Lib Go.Shelf

theorem own_cap {w : World} {base : Nat} {ad : Option Addr} {n c : Nat} {l : List Value} (h : w.ownsRow base 9 1 (.slice ad n c) n l) : n ≤ c := by
  rcases h.2 with ⟨hv, hn0⟩ | ⟨g, cap, cur, hv, _, _, hc, _⟩
  · simp only [Value.slice.injEq] at hv
    omega
  · simp only [Value.slice.injEq] at hv
    omega

theorem shortsOn_snoc (p : Str) (t : List Str) (r : Str) : shortsOn p (t ++ [r]) = shortsOn p t ++ [shortOf r (t.getLast?.getD p)] := by
  induction t generalizing p with
  | nil => rfl
  | cons x t ih =>
    simp only [List.cons_append, shortsOn, ih]
    cases t with
    | nil => rfl
    | cons y t => simp [List.getLast?_cons]
theorem shorts_snoc (t : List Str) (r : Str) (ht : t ≠ []) : shorts (t ++ [r]) = shorts t ++ [shortOf r (t.getLast?.getD [])] := by
  cases t with
  | nil => exact absurd rfl ht
  | cons x t =>
    show x :: shortsOn x (t ++ [r]) = _
    rw [shortsOn_snoc]
    simp only [shorts, List.cons_append]
    cases t with
    | nil => rfl
    | cons y t => simp [List.getLast?_cons]
theorem shorts_one {l : List Str} (h : 0 < l.length) : shorts (l.take 1) = shorts (l.take 0) ++ [l[0]!] := by
  cases l with
  | nil => simp at h
  | cons x t => rfl
theorem shorts_step {l : List Str} {i : Nat} (h0 : 0 < i) (h : i < l.length) : shorts (l.take (i + 1)) = shorts (l.take i) ++ [shortOf l[i]! l[i - 1]!] := by
  rw [← List.take_append_getElem h, shorts_snoc _ _ (by intro e; have := congrArg List.length e; rw [List.length_take, List.length_nil] at this; omega), getElem!_pos l i h, getElem!_pos l (i - 1) (by omega)]
  congr 3
  rw [List.getLast?_eq_getElem?, List.length_take, Nat.min_eq_left (by omega), List.getElem?_take_of_lt (by omega), List.getElem?_eq_getElem (by omega)]
  rfl
theorem short_len (r p : Str) : (shortOf r p).length ≤ r.length + 1 := by
  unfold shortOf
  split
  · split
    · simp; omega
    · simp; omega
  · split
    · simp
    · omega
theorem joinOn_len2 (c : UInt8) (l : List Str) (k : Nat) (h : ∀ x ∈ l, x.length ≤ k) : (joinOn c l).length ≤ l.length * (k + 1) := by
  induction l with
  | nil => simp [joinOn]
  | cons x r ih =>
    have h1 := h x (by simp)
    have h2 := ih (fun y hy => h y (by simp [hy]))
    have e : (r.length + 1) * (k + 1) = r.length * (k + 1) + (k + 1) := by rw [Nat.add_mul]; omega
    by_cases hr : r = []
    · subst hr; simp [joinOn]; omega
    · rw [joinOn_cons c x r hr]; simp only [List.length_append, List.length_cons]; omega
theorem shortsOn_long {p : Str} {t : List Str} (ht : ∀ r ∈ t, r.length ≤ 37) : ∀ x ∈ shortsOn p t, x.length ≤ 38 := by
  induction t generalizing p with
  | nil => intro x hx; simp [shortsOn] at hx
  | cons r t ih =>
    intro x hx
    simp only [shortsOn, List.mem_cons] at hx
    rcases hx with rfl | hx
    · have := short_len r p
      have := ht r (by simp)
      omega
    · exact ih (fun y hy => ht y (by simp [hy])) x hx
theorem shorts_long {t : List Str} (ht : ∀ r ∈ t, r.length ≤ 37) : ∀ x ∈ shorts t, x.length ≤ 38 := by
  cases t with
  | nil => intro x hx; simp [shorts] at hx
  | cons r t =>
    intro x hx
    simp only [shorts, List.mem_cons] at hx
    rcases hx with rfl | hx
    · have := ht x (by simp)
      omega
    · exact shortsOn_long (fun y hy => ht y (by simp [hy])) x hx
theorem isR_short' {r : Str} (h : isR r = true) : r.length ≤ 37 := by
  obtain ⟨hG, he, _⟩ := good_of_kind (isR_kind' h)
  have h8 : ∀ x ∈ (labelsOf r).1, x.length ≤ 8 := fun x hx => (word_up (hG.word x hx)).2.1
  have h4 := hG.few
  rw [← he]
  unfold realmOf
  rw [if_neg hG.ne]
  split
  · have := joinOn_len2 47 _ 8 h8
    simp only [List.length_cons]
    omega
  · have := joinOn_len2 46 (labelsOf r).1.reverse 8 (fun x hx => h8 x (by simpa using hx))
    simp only [List.length_reverse] at this
    omega
theorem compress_len {l : List Str} : (compressOf l).1.length ≤ 312 := by
  unfold compressOf
  split
  · simp
  · split
    · simp
    · rename_i h1 h2
      have h1 : ∀ r ∈ l, isR r = true := by simpa using h1
      have := joinOn_len2 44 (shorts l) 38 (shorts_long (fun r hr => isR_short' (h1 r hr)))
      rw [shorts_len] at this
      simp only
      omega

def CompPost (w w' : World) (l : List Str) (e : Ending) : Prop := e = .returned (.tuple #[.string ⟨(compressOf l).1.toArray⟩, .int .i64 (compressOf l).2]) ∧ Below w.heap.size w w'

set_option maxHeartbeats 2000000 in
theorem compress_any (w : World) (hg : Glob w) (ad : Option Addr) (n c : Nat) (l : List Str) (hA : At w ad n l) (hn : n ≤ 100000) (hsz : ∀ x ∈ l, x.length < 90000) :
    Calls Tryd.prog 21 #[.slice ad n c] w fun e w' => CompPost w w' l e := by
  have hC := notRAny_any w hg ad n c l hA (by omega) hsz
  have hl := hA.len
  have acc : Below w.heap.size w w := Below.refl _ _
  cases hb : l.any (fun r => !isR r) with
  | true =>
    have hr : compressOf l = ([], 1) := by unfold compressOf; rw [if_pos hb]
    have HR := Lib.hid hr
    rw [hb] at hC
    clear hr hb hA hsz
    go_enter Tryd.func21, Tryd.ntmps21
    go_wp2_with (go_at_call 35; refine hC.mono ?_; rintro e w2 ⟨rfl, hb⟩)
    go_ret2
    exact ⟨by rw [HR.out]; rfl, hb⟩
  | false =>
    rw [hb] at hC
    by_cases h8 : 8 < n
    · have hr : compressOf l = ([], 13) := by unfold compressOf; rw [if_neg (by rw [hb]; simp), if_pos (by omega)]
      have HR := Lib.hid hr
      have h8z : (8 : Int) < (n : Int) := by omega
      clear hr hb hA hsz h8
      go_enter Tryd.func21, Tryd.ntmps21
      go_wp2_with (go_at_call 35; refine hC.mono ?_; rintro e w2 ⟨rfl, hb⟩)
      go_ret2
      exact ⟨by rw [HR.out]; rfl, hb⟩
    · have h8z : ¬ (8 : Int) < (n : Int) := by omega
      have hall : ∀ r ∈ l, isR r = true := by simpa using hb
      have hr : compressOf l = (joinOn 44 (shorts l), 0) := compress_ok hall (by omega)
      have HR := Lib.hid hr
      have hjl : (joinOn 44 (shorts l)).length ≤ 100000 := by
        have := compress_len (l := l)
        rw [hr] at this
        simp only at this
        omega
      have HA := Lib.hid hA
      have HALL := Lib.hid hall
      have HG := Lib.hid hg
      have HL := Lib.hid hl
      clear hr hb hA hsz hall hg hl
      go_enter Tryd.func21, Tryd.ntmps21
      go_wp2_with (go_at_call 35; refine hC.mono ?_; rintro e w2 ⟨rfl, hb⟩; replace acc := hb; clear hC hb)
      go_loopg [4, 14] n (fun gg s4 s14 wr => ∃ (i : Nat) (ad' : Option Addr) (c' : Nat), i ≤ n ∧ n - i ≤ gg ∧ s14 = .int .i64 i ∧ s4 = .slice ad' i c' ∧ Aside (wr.ownsRow w.heap.size 9 1 (.slice ad' i c') i (strs (shorts (l.take i)))) ∧ Aside (Below w.heap.size w wr))
      case atStart => exact ⟨0, none, 0, by omega, by omega, rfl, rfl, World.ownsRow_nil _ _ _ _, acc⟩
      case round =>
        obtain ⟨i, ad', c', hi, hgg, rfl, rfl, HO, HB⟩ := hrel
        have ho := HO.out
        have acc := HB.out
        by_cases hlt : i < n
        · have hltz : (i : Int) < (n : Int) := by omega
          obtain ⟨bk, off, hbk, hbl, hc⟩ := HA.out.cell (by omega)
          obtain ⟨x, hxx⟩ : ∃ x : ByteArray, x = ⟨l[i]!.toArray⟩ := ⟨_, rfl⟩
          have hxd : x.data.toList = l[i]! := by rw [hxx]
          have kx := (acc.cell (p := ⟨bk, off + i, none⟩) hbl).trans (hc i hlt)
          rw [← hxx] at kx
          have hmem : l[i]! ∈ l := by rw [getElem!_pos l i (by rw [HL.out]; omega)]; exact List.getElem_mem _
          have sx : x.size < 90000 := by have e : x.data.toList.length = x.size := rfl; have := isR_short' (HALL.out _ hmem); rw [hxd] at e; omega
          have HX := Lib.hid hxd
          have HC := Lib.hid hc
          subst hbk
          clear hxx hxd hmem hc
          by_cases h0 : i = 0
          · subst h0
            have kx : wr.cell? ⟨bk, off, none⟩ = some (.string x) := kx
            go_wp2_with (at_builtin; refine wpList_append_text _ rfl (.tmp 28) (.tmp 30) rfl w.heap.size ad' 0 c' (shorts (l.take 0)) rfl (ho.alloc _) wr.heap.size x.data.toList rfl (heap_alloc_new _ _) (by omega) (Nat.le_trans acc.size (by simp)) ?_; intro g7 cap7 w7 hown7 hb7; replace acc := (acc.alloc acc.size _).trans hb7; clear ho hb7)
            go_roundg (n - 1)
            case measure => omega
            case rel => exact ⟨1, some ⟨g7, 0, none⟩, cap7, by omega, by omega, by go_num, rfl, by rw [shorts_one (by rw [HL.out]; omega), ← HX.out]; exact hown7, acc⟩
          · have hiz : (0 : Int) < (i : Int) := by omega
            have hsub : (i : Int) - 1 = ((i - 1 : Nat) : Int) := by omega
            have hiz2 : ((i - 1 : Nat) : Int) < (n : Int) := by omega
            obtain ⟨p, hpp⟩ : ∃ p : ByteArray, p = ⟨l[i - 1]!.toArray⟩ := ⟨_, rfl⟩
            have hpd : p.data.toList = l[i - 1]! := by rw [hpp]
            have kp := (acc.cell (p := ⟨bk, off + (i - 1), none⟩) hbl).trans (HC.out (i - 1) (by omega))
            rw [← hpp] at kp
            have hmem : l[i - 1]! ∈ l := by rw [getElem!_pos l (i - 1) (by rw [HL.out]; omega)]; exact List.getElem_mem _
            have sp : p.size < 90000 := by have e : p.data.toList.length = p.size := rfl; have := isR_short' (HALL.out _ hmem); rw [hpd] at e; omega
            have HP := Lib.hid hpd
            clear hpp hpd hmem
            go_wp2_with (first
              | (go_at_call 37; refine (short_any _ _ _ (HG.out.below acc) (by assumption) (by assumption)).mono ?_; rintro e w3 ⟨rfl, hb⟩; replace acc := acc.trans (hb.mono acc.size); replace ho := own_below ho hb; clear hb)
              | (at_builtin; refine wpList_append_text _ rfl (.tmp 28) (.tmp 30) rfl w.heap.size ad' i c' (shorts (l.take i)) rfl (ho.alloc _) w3.heap.size (shortOf x.data.toList p.data.toList) rfl (heap_alloc_new _ _) (by omega) (Nat.le_trans acc.size (by simp)) ?_; intro g7 cap7 w7 hown7 hb7; replace acc := (acc.alloc acc.size _).trans hb7; clear ho hb7))
            go_roundg (n - (i + 1))
            case measure => omega
            case rel => exact ⟨i + 1, some ⟨g7, 0, none⟩, cap7, by omega, by omega, by go_num, rfl, by rw [shorts_step (by omega) (by rw [HL.out]; omega), ← HX.out, ← HP.out]; exact hown7, acc⟩
        · have hin : i = n := by omega
          subst hin
          have hcap := own_cap ho
          have htake : l.take i = l := by rw [← HL.out, List.take_length]
          rw [htake] at ho
          have hat := At.owns ho
          have HAT := Lib.hid hat
          clear hat htake ho
          go_wp2_with (go_at_call 38; refine (join_any _ _ _ _ (shorts l) 44 HAT.out hcap hjl (by omega)).mono ?_; rintro e w3 ⟨rfl, hb⟩; replace acc := acc.trans (hb.mono acc.size); clear hb)
          go_ret2
          exact ⟨by rw [HR.out]; rfl, acc⟩
end Go.Proofs.YtjbdegcmolimoaaDoor
