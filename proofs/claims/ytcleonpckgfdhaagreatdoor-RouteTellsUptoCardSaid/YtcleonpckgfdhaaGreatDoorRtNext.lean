/-
  route.Next.
-/
import Derived.Test.YtcleonpckgfdhaaGreatDoorRtBack
set_option linter.unusedVariables false
set_option linter.unusedSimpArgs false
set_option maxRecDepth 100000
namespace Go.Proofs.YtcleonpckgfdhaaGreatDoor
open Go Go.RowKit Go.Lib Go.Shelf

attribute [local go_sem] Oper.semAt_some

theorem keeps_below {B : Nat} {W W' : World} (h : Below W.heap.size W W') : KeepsFrom B W W' :=
  ⟨h.size, fun k o _ hk _ => (h.block k (Array.getElem?_eq_some_iff.1 hk).1).trans hk⟩

theorem via_len {T : Topo} (hS : Short T) (a b : Str) : (viaOf T a b).length ≤ 100000 := by
  unfold viaOf laidOf
  cases h : T.paths.find? fun p => decide (p.1 = (a, b)) with
  | none => have := betOf_len a b; have := labels_len a; have := labels_len b; simp; omega
  | some p => exact (hS.2 p (List.mem_of_find?_eq_some h)).1
theorem own_cap {w : World} {base n c : Nat} {ad : Option Addr} {l : List Str} (h : w.ownsRow base 9 1 (.slice ad n c) n (strs l)) : n ≤ c := by
  rcases h.2 with ⟨e, h0⟩ | ⟨g', cap', cur, e, _, _, h3, _⟩
  · simp only [Value.slice.injEq] at e
    omega
  · simp only [Value.slice.injEq] at e
    rw [e.2.2]
    exact h3
theorem own_cap1 {w : World} {base n c : Nat} {ad : Option Addr} {l : List Str} (h : w.ownsRow base 9 1 (.slice ad (n + 1) c) (n + 1) (strs l)) : (1 : Int) ≤ (c : Int) := by
  have := own_cap h
  omega
theorem backward_any (a : Option Addr) (len cap : Nat) (w : World) :
    Calls Tryz.prog 23 #[.slice a len cap] w fun e w' => e = .returned (.func (.func 36) #[] #[.pointer (some ⟨w.heap.size, 0, none⟩)]) ∧ w' = w.alloc (.cells #[.slice a len cap] 22) :=
  (callsIn_wide (n := 0)).1 (backward_in Fence.wide 0 trivial rfl a len cap w)

theorem back_snd (l : List Str) : ∀ k, k ≤ l.length → (back l k).map (·.2) = l.reverse.take k := by
  intro k
  induction k with
  | zero => intro _; rfl
  | succ k ih =>
    intro hk
    rw [back, List.map_append, ih (by omega), List.take_succ_eq_append_getElem (by simp; omega)]
    congr 1
    simp only [List.map_cons, List.map_nil]
    rw [getElem!_pos l _ (by omega), List.getElem_reverse]
theorem back_all {l : List Str} {f : Str → Bool} (h : ∀ p ∈ back l l.length, f p.2 = false) : l.reverse.find? f = none := by
  have := back_snd l l.length (Nat.le_refl _)
  rw [List.take_of_length_le (by simp)] at this
  rw [← this, List.find?_eq_none]
  intro x hx
  simp only [List.mem_map] at hx
  obtain ⟨p, hp, rfl⟩ := hx
  simp [h p hp]
theorem back_one {l : List Str} {f : Str → Bool} {k : Nat} {ini : List (Nat × Str)} {last : Nat × Str} (hk : k ≤ l.length) (e : back l k = ini ++ [last]) (h : ∀ p ∈ ini, f p.2 = false) (h1 : f last.2 = true) : l.reverse.find? f = some last.2 := by
  have := back_snd l k hk
  rw [e, List.map_append] at this
  have e2 : l.reverse.find? f = (l.reverse.take k ++ l.reverse.drop k).find? f := by rw [List.take_append_drop]
  rw [e2, ← this, List.append_assoc, List.find?_append]
  have e3 : (ini.map (·.2)).find? f = none := by
    rw [List.find?_eq_none]
    intro x hx
    simp only [List.mem_map] at hx
    obtain ⟨p, hp, rfl⟩ := hx
    simp [h p hp]
  rw [e3]
  simp [h1]

def nextV (r : Option Str) : Ending := match r with
  | none => .returned (.tuple #[.string ⟨#[]⟩, .bool false])
  | some n => .returned (.tuple #[.string ⟨n.toArray⟩, .bool true])

set_option maxHeartbeats 4000000 in
theorem next_any (w : World) (v : Tv) (T : Topo) (a b : ByteArray) (hT : Tt w v T) (hS : Short T) (hnl : v.nl ≤ 4611686018427387904) (hg : Glob w) (ha : a.size < 90000) (hb : b.size < 90000) :
    Calls Tryz.prog 7 #[.agg #[.slice v.ar v.nr v.cr, .slice v.al v.nl v.cl, .slice v.ap v.np v.cp], .string a, .string b] w fun e w' => e = nextV (nextOf T a.data.toList b.data.toList) ∧ Below w.heap.size w w' := by
  have kab := eq_bytes a b
  by_cases hab : a.data.toList = b.data.toList
  · rw [decide_eq_true hab] at kab
    have hr : nextOf T a.data.toList b.data.toList = none := by unfold nextOf; rw [if_pos hab]
    rw [hr]
    unfold nextV
    clear hr hab
    go_enter Tryz.func7, Tryz.ntmps7
    go_wp2
    refine bodyPost_ret (v := .tuple #[.string ⟨#[]⟩, .bool false]) (by simp [results, Tryz.results7, go_sem]) rfl ⟨rfl, ?_⟩
    exact ((((Below.refl _ _).alloc (Nat.le_refl _) _).alloc (by simp) _).alloc (by simp; omega) _).alloc (by simp; omega) _
  · rw [decide_eq_false hab] at kab
    have HT := Lib.hid hT
    have HG := Lib.hid hg
    have HS := Lib.hid hS
    obtain ⟨w4, hw4⟩ : ∃ w4, w4 = ((((w.alloc (.cells #[.slice v.ar v.nr v.cr, .slice v.al v.nl v.cl, .slice v.ap v.np v.cp] 26)).alloc (.cells #[.string a] 9)).alloc (.cells #[.string ⟨#[]⟩] 9)).alloc (.cells #[.bool false] 4)) := ⟨_, rfl⟩
    have acc : Below w.heap.size w w4 := by rw [hw4]; exact ((((Below.refl _ _).alloc (Nat.le_refl _) _).alloc (by simp) _).alloc (by simp; omega) _).alloc (by simp; omega) _
    have hz : w4.heap.size = w.heap.size + 4 := by rw [hw4]; simp
    have k0 : ∀ (i : Nat) x, (#[Value.slice v.ar v.nr v.cr, .slice v.al v.nl v.cl, .slice v.ap v.np v.cp] : Array Value)[i]? = some x → w4.cell? ⟨w.heap.size, i, none⟩ = some x := fun i x h => by rw [hw4]; exact cell_old _ (cell_old _ (cell_old _ (cell_new rfl _ _ h)))
    have k1 : w4.cell? ⟨w.heap.size + 1, 0, none⟩ = some (.string a) := by rw [hw4]; exact cell_old _ (cell_old _ (cell_new (by simp) _ _ rfl))
    have k2 : w4.heap[w.heap.size + 2]? = some (.cells #[.string ⟨#[]⟩] 9 (0, 0)) := by rw [hw4]; exact (heap_alloc_old _ _ (by simp)).trans (by have := heap_alloc_new ((w.alloc (.cells #[.slice v.ar v.nr v.cr, .slice v.al v.nl v.cl, .slice v.ap v.np v.cp] 26)).alloc (.cells #[.string a] 9)) (.cells #[.string ⟨#[]⟩] 9); simpa using this)
    have k3 : w4.heap[w.heap.size + 3]? = some (.cells #[.bool false] 4 (0, 0)) := by rw [hw4]; have := heap_alloc_new (((w.alloc (.cells #[.slice v.ar v.nr v.cr, .slice v.al v.nl v.cl, .slice v.ap v.np v.cp] 26)).alloc (.cells #[.string a] 9)).alloc (.cells #[.string ⟨#[]⟩] 9)) (.cells #[.bool false] 4); simpa using this
    have keep : ∀ w2, Below w4.heap.size w4 w2 → w2.cell? ⟨w.heap.size, 0, none⟩ = some (.slice v.ar v.nr v.cr) ∧ w2.cell? ⟨w.heap.size, 1, none⟩ = some (.slice v.al v.nl v.cl) ∧ w2.cell? ⟨w.heap.size, 2, none⟩ = some (.slice v.ap v.np v.cp) ∧ w2.cell? ⟨w.heap.size + 1, 0, none⟩ = some (.string a) := fun w2 h =>
      ⟨(h.cell (p := ⟨w.heap.size, 0, none⟩) (by show w.heap.size < _; omega)).trans (k0 0 _ rfl), (h.cell (p := ⟨w.heap.size, 1, none⟩) (by show w.heap.size < _; omega)).trans (k0 1 _ rfl), (h.cell (p := ⟨w.heap.size, 2, none⟩) (by show w.heap.size < _; omega)).trans (k0 2 _ rfl), (h.cell (p := ⟨w.heap.size + 1, 0, none⟩) (by show w.heap.size + 1 < _; omega)).trans k1⟩
    have KEEP := Lib.hid keep
    have ACC := Lib.hid acc
    have HZ := Lib.hid hz
    have HW4 := Lib.hid hw4
    have K2 := Lib.hid k2
    have K3 := Lib.hid k3
    have hV := via_any w4 v T a b (hT.below acc) hS (hg.below acc) ha hb
    rw [hw4] at hV
    clear hT hg hS keep acc hz hw4 k0 k1 k2 k3
    have hvl := via_len HS.out a.data.toList b.data.toList
    obtain ⟨V, hV2⟩ : ∃ V, V = viaOf T a.data.toList b.data.toList := ⟨_, rfl⟩
    rw [← hV2] at hV hvl
    have HV2 := Lib.hid hV2
    clear hV2
    cases hl : laidOf T a.data.toList b.data.toList with
    | none =>
      have hD := fun w hT => laid_any w v T a b hT HS.out
      rw [hl] at hD
      unfold LaidPost at hD
      simp only at hD
      have hnx : nextOf T a.data.toList b.data.toList = (V ++ [b.data.toList]).reverse.find? fun r => linkedOf T a.data.toList r := by
        unfold nextOf wayTo
        rw [if_neg hab, hl, HV2.out]
        unfold viaOf
        rw [hl]
      obtain ⟨l', hl'⟩ : ∃ l', l' = V ++ [b.data.toList] := ⟨_, rfl⟩
      rw [← hl'] at hnx
      rw [hnx]
      obtain ⟨R, hR⟩ : ∃ R, R = l'.reverse.find? fun r => linkedOf T a.data.toList r := ⟨_, rfl⟩
      rw [← hR]
      have HR := Lib.hid hR
      have HLL := Lib.hid hl'
      clear hl hR hl' hnx
      refine (callsIn_wide (n := 6)).1 ?_
      refine callsIn_of_wp_marks Tryz.func7 rfl trivial ?_ rfl
      simp only [Tryz.ntmps7, List.size_toArray, List.length_cons, List.length_nil, Nat.reduceAdd, Nat.reduceSub, Array.replicate_succ, Array.replicate_zero, List.push_toArray, List.append_toArray, List.nil_append, List.cons_append]
      refine wpIn_wide.2 ?_
      go_wp2_with (first
        | (go_at_call 14; refine hV.mono ?_; rintro e w5 ⟨ad, c, rfl, ho, hb5⟩; rw [← HW4.out] at ho hb5; obtain ⟨a0, a1, a2, a3⟩ := KEEP.out w5 hb5)
        | (at_builtin; refine wpList_append_text _ rfl (.tmp 19) (.tmp 21) rfl w4.heap.size ad V.length c V rfl (ho.alloc _) w5.heap.size b.data.toList rfl (heap_alloc_new _ _) (by omega) (by have := hb5.size; simp; omega) ?_; intro g6 cap6 w6 hown6 hb6; have acc6 : Below w4.heap.size w4 w6 := hb5.trans (((Below.refl _ _).alloc hb5.size _).trans hb6); clear ho hb6 a0 a1 a2 a3; obtain ⟨a0, a1, a2, a3⟩ := KEEP.out w6 acc6)
        | (go_at_call 22; refine (hD _ (HT.out.below (ACC.out.trans (acc6.mono ACC.out.size)))).mono ?_; rintro e w7 ⟨rfl, hb7⟩)
        | (go_at_call 23; refine (backward_any _ _ _ _).mono ?_; rintro e w8 ⟨rfl, h8⟩; have H8 := Lib.hid h8; clear h8))
      have hn7 := own_below hown6 hb7
      have hz8 : w8.heap.size = w7.heap.size + 1 := by rw [H8.out]; simp
      have hb8 : Below w7.heap.size w7 w8 := by rw [H8.out]; exact (Below.refl _ _).alloc (Nat.le_refl _) _
      have acc8 : Below w4.heap.size w4 w8 := acc6.trans ((hb7.mono acc6.size).trans (hb8.mono (Nat.le_trans acc6.size hb7.size)))
      have bS : w8.cell? ⟨w7.heap.size, 0, none⟩ = some (.slice (some ⟨g6, 0, none⟩) (V.length + 1) cap6) := by rw [H8.out]; exact cell_new rfl _ _ rfl
      have hA8 : At w8 (some ⟨g6, 0, none⟩) (V.length + 1) (V ++ [b.data.toList]) := (At.owns hn7).below hb8
      have hg6 : g6 < w8.heap.size := by
        obtain ⟨b', off', e', hlt', _⟩ := hA8.cell (by omega)
        simp only [Option.some.injEq, Addr.mk.injEq] at e'
        rw [e'.1]; exact hlt'
      have HA8 := Lib.hid hA8
      obtain ⟨m, hm⟩ : ∃ m, m = V.length + 1 := ⟨_, rfl⟩
      have hm2 : m ≤ 100001 := by omega
      rw [← HLL.out] at hA8
      rw [← hm] at hA8 bS ⊢
      have hml := hA8.len
      have hK := KEEP.out w8 acc8
      have accw8 := ACC.out.trans (acc8.mono ACC.out.size)
      have hsz8 : w.heap.size + 4 ≤ w8.heap.size := by have := acc8.size; have := HZ.out; omega
      have r2 : w8.heap[w.heap.size + 2]? = some (.cells #[.string ⟨#[]⟩] 9 (0, 0)) := (acc8.block _ (by have := HZ.out; omega)).trans K2.out
      have r3 : w8.heap[w.heap.size + 3]? = some (.cells #[.bool false] 4 (0, 0)) := (acc8.block _ (by have := HZ.out; omega)).trans K3.out
      have HK := Lib.hid hK
      have AW8 := Lib.hid accw8
      have R2 := Lib.hid r2
      have R3 := Lib.hid r3
      have HML := Lib.hid hml
      have BS := Lib.hid bS
      have HA8 := Lib.hid hA8
      clear hK accw8 r2 r3 hml bS hA8 hn7 hz8 hb8 acc8 acc6 hown6 hb7 a0 a1 a2 a3 hb5
      refine (wpIn_wide (n := 6)).1 ?_
      refine wpIn_rangeFunc_ownG (n := 6) (F := Fence.wide) rfl (by omega) (gf := 36) (lb := #[.pointer (some ⟨w7.heap.size, 0, none⟩)]) rfl trivial (enters_of Tryz.func36 (by kernel_rfl) rfl)
        (back_stops Fence.wide 5 trivial rfl (by omega) w7.heap.size w8.heap.size (some ⟨g6, 0, none⟩) m cap6 l' (by omega) w8 (by rw [H8.out]; simp) (Nat.le_refl _) BS.out HA8.out (fun b' off' e' => by simp only [Option.some.injEq, Addr.mk.injEq] at e'; rw [← e'.1]; exact hg6)) belowK_t (belowK_b (Nat.le_refl _)) (Below.refl _ _) (fun _ => rfl)
        (fun pre W => (∀ p ∈ pre, linkedOf T a.data.toList p.2 = false) ∧ Below w8.heap.size w8 W)
        (fun c pre W => (c = .ret ∧ ∃ ini last, pre = ini ++ [last] ∧ (∀ p ∈ ini, linkedOf T a.data.toList p.2 = false) ∧ linkedOf T a.data.toList last.2 = true ∧ W.cell? ⟨w.heap.size + 1 + 1, 0, none⟩ = some (.string ⟨last.2.toArray⟩) ∧ W.cell? ⟨w.heap.size + 1 + 1 + 1, 0, none⟩ = some (.bool true)) ∧ Below w.heap.size w W)
        (OwnFrom.and (Own.from (fun s A B row hs hg hr => hs) _) (ownFrom_below (Nat.le_refl _) (Nat.le_refl _)))
        (fun c => OwnFrom.and (Own.from (fun s A B row hs hg hr => by obtain ⟨hc, ini, last, e1, e2, e3, e4, e5⟩ := hs; exact ⟨hc, ini, last, e1, e2, e3, cell_kept e4 hg hr, cell_kept e5 hg hr⟩) _) (ownFrom_below (Nat.le_refl _) AW8.out.size))
        ⟨by simp, Below.refl _ _⟩ ?a₁ ?assign ?body ?done ?stop
      case assign =>
        intro l x W K hK
        gi_wp2
        exact hK
      case body =>
        rintro l pre x W ⟨hne, hB⟩ _
        have hB2 := AW8.out.trans (hB.mono AW8.out.size)
        have hT2 := HT.out.below hB2
        have hL := linked_any W v T a ⟨x.2.toArray⟩ hT2 (by omega)
        have hk := HK.out
        have x0 := (hB.cell (p := ⟨w.heap.size, 0, none⟩) (by show w.heap.size < _; omega)).trans hk.1
        have x1 := (hB.cell (p := ⟨w.heap.size, 1, none⟩) (by show w.heap.size < _; omega)).trans hk.2.1
        have x2 := (hB.cell (p := ⟨w.heap.size, 2, none⟩) (by show w.heap.size < _; omega)).trans hk.2.2.1
        have x3 := (hB.cell (p := ⟨w.heap.size + 1, 0, none⟩) (by show w.heap.size + 1 < _; omega)).trans hk.2.2.2
        have HNE := Lib.hid hne
        have HB := Lib.hid hB
        have HB2 := Lib.hid hB2
        clear hne hB hB2 hT2 hk
        cases hlk : linkedOf T a.data.toList x.2 with
        | false =>
          rw [show linkedOf T a.data.toList (⟨x.2.toArray⟩ : ByteArray).data.toList = false from hlk] at hL
          have HLK := Lib.hid hlk
          clear hlk
          gi_wp2_with (refine ⟨trivial, ?_⟩; gi_at_call 11; refine (CallsIn.inRound l (callsIn_wide.2 hL)).mono ?_; rintro e w9 ⟨rfl, hb9⟩)
          exact ⟨keeps_below hb9, hb9.mono HB.out.size, fun p hp => (List.mem_append.1 hp).elim (HNE.out p) (fun e => by simp at e; subst e; exact HLK.out), HB.out.trans (hb9.mono HB.out.size)⟩
        | true =>
          rw [show linkedOf T a.data.toList (⟨x.2.toArray⟩ : ByteArray).data.toList = true from hlk] at hL
          have HLK := Lib.hid hlk
          clear hlk
          have hres : ∀ w9, Below W.heap.size W w9 → w9.cell? ⟨w.heap.size + 1 + 1, 0, none⟩ = some (.string ⟨#[]⟩) ∧ w9.frozen? ⟨w.heap.size + 1 + 1, 0, none⟩ = false ∧ w9.cell? ⟨w.heap.size + 1 + 1 + 1, 0, none⟩ = some (.bool false) ∧ w9.frozen? ⟨w.heap.size + 1 + 1 + 1, 0, none⟩ = false := fun w9 h => by
            have h2 : w9.heap[w.heap.size + 1 + 1]? = some (.cells #[.string ⟨#[]⟩] 9 (0, 0)) := ((HB.out.trans (h.mono HB.out.size)).block _ (by omega)).trans R2.out
            have h3 : w9.heap[w.heap.size + 1 + 1 + 1]? = some (.cells #[.bool false] 4 (0, 0)) := ((HB.out.trans (h.mono HB.out.size)).block _ (by omega)).trans R3.out
            exact ⟨by simp [World.cell?, h2], by simp [World.frozen?, h2], by simp [World.cell?, h3], by simp [World.frozen?, h3]⟩
          have HRES := Lib.hid hres
          clear hres
          gi_wp2_with (refine ⟨trivial, ?_⟩; gi_at_call 11; refine (CallsIn.inRound l (callsIn_wide.2 hL)).mono ?_; rintro e w9 ⟨rfl, hb9⟩; obtain ⟨y0, y1, y2, y3⟩ := HRES.out w9 hb9)
          have hB9 := HB2.out.trans (hb9.mono HB2.out.size)
          refine ⟨(keeps_below hb9).trans (((KeepsOthers.setCell _ _ _).trans (KeepsOthers.setCell _ _ _)).from _), ⟨rfl, pre, x, rfl, HNE.out, HLK.out, ?_, ?_⟩, ?_⟩
          · rw [World.cell?_setCell_other _ _ _ _ (by simp)]
            exact World.cell?_setCell_same' _ _ _ (by rw [y0]; rfl)
          · refine World.cell?_setCell_same' _ _ _ ?_
            rw [World.cell?_setCell_other _ _ _ _ (by simp), y2]
            rfl
          · exact (hB9.setCell (p := ⟨w.heap.size + 1 + 1, 0, none⟩) (by show w.heap.size ≤ w.heap.size + 1 + 1; omega) _).setCell (p := ⟨w.heap.size + 1 + 1 + 1, 0, none⟩) (by show w.heap.size ≤ w.heap.size + 1 + 1 + 1; omega) _
      case done =>
        rintro D ys W hD rfl ⟨hne, hB⟩ hK
        have hR : R = none := by
          rw [HR.out]
          rw [← HML.out] at hne
          exact back_all hne
        subst hR
        have h2 : W.heap[w.heap.size + 1 + 1]? = some (.cells #[.string ⟨#[]⟩] 9 (0, 0)) := (hB.block _ (by omega)).trans R2.out
        have h3 : W.heap[w.heap.size + 1 + 1 + 1]? = some (.cells #[.bool false] 4 (0, 0)) := (hB.block _ (by omega)).trans R3.out
        have y0 : W.cell? ⟨w.heap.size + 1 + 1, 0, none⟩ = some (.string ⟨#[]⟩) := by simp [World.cell?, h2]
        have y1 : W.frozen? ⟨w.heap.size + 1 + 1, 0, none⟩ = false := by simp [World.frozen?, h2]
        have y2 : W.cell? ⟨w.heap.size + 1 + 1 + 1, 0, none⟩ = some (.bool false) := by simp [World.cell?, h3]
        have y3 : W.frozen? ⟨w.heap.size + 1 + 1 + 1, 0, none⟩ = false := by simp [World.frozen?, h3]
        clear h2 h3
        have HK5 := Lib.hid hK
        have HB := Lib.hid hB
        have HD := Lib.hid hD
        clear hK hB hne hD
        go_wp2
        have hK' := ((KeepsOthers.setCell W ⟨w.heap.size + 1 + 1, 0, none⟩ (.string ⟨#[]⟩)).trans (KeepsOthers.setCell _ ⟨w.heap.size + 1 + 1 + 1, 0, none⟩ (.bool false))).same D _ HK5.out rfl
        have c5 : ((W.setCell ⟨w.heap.size + 1 + 1, 0, none⟩ (.string ⟨#[]⟩)).setCell ⟨w.heap.size + 1 + 1 + 1, 0, none⟩ (.bool false)).cell? ⟨w.heap.size + 1 + 1, 0, none⟩ = some (.string ⟨#[]⟩) := by
          rw [World.cell?_setCell_other _ _ _ _ (by simp)]
          exact World.cell?_setCell_same' _ _ _ (by rw [y0]; rfl)
        have c6 : ((W.setCell ⟨w.heap.size + 1 + 1, 0, none⟩ (.string ⟨#[]⟩)).setCell ⟨w.heap.size + 1 + 1 + 1, 0, none⟩ (.bool false)).cell? ⟨w.heap.size + 1 + 1 + 1, 0, none⟩ = some (.bool false) := by
          refine World.cell?_setCell_same' _ _ _ ?_
          rw [World.cell?_setCell_other _ _ _ _ (by simp), y2]
          rfl
        have d5 := cell_kept c5 (grownBy_putObj' _ D (.deferred none)) (fun r e => by cases e; exact ⟨_, hK', rfl⟩)
        have d6 := cell_kept c6 (grownBy_putObj' _ D (.deferred none)) (fun r e => by cases e; exact ⟨_, hK', rfl⟩)
        refine ⟨by simp, .inl ⟨_, _, rfl, run_takeDeferred hK', ?_⟩⟩
        refine ⟨.tuple #[.string ⟨#[]⟩, .bool false], ?_, rfl, ?_⟩
        · simp [results, Tryz.results7, go_sem, d5, d6]
        · have h9 := ((AW8.out.trans (HB.out.mono AW8.out.size)).setCell (p := ⟨w.heap.size + 1 + 1, 0, none⟩) (by show w.heap.size ≤ w.heap.size + 1 + 1; omega) (.string ⟨#[]⟩)).setCell (p := ⟨w.heap.size + 1 + 1 + 1, 0, none⟩) (by show w.heap.size ≤ w.heap.size + 1 + 1 + 1; omega) (.bool false)
          exact h9.trans (belowK_b (w := w) (Nat.le_refl _) _ D _ _ (by have := HD.out; omega) hK' rfl rfl)
      case stop =>
        rintro D c' pre W hD ⟨k, hk, rfl⟩ ⟨⟨rfl, ini, last, e1, e2, e3, c5, c6⟩, hB⟩ hK
        have hR : R = some last.2 := by
          rw [HR.out]
          exact back_one (by have := HML.out; omega) e1 e2 e3
        subst hR
        have d5 := cell_kept c5 (grownBy_putObj' _ D (.deferred none)) (fun r e => by cases e; exact ⟨_, hK, rfl⟩)
        have d6 := cell_kept c6 (grownBy_putObj' _ D (.deferred none)) (fun r e => by cases e; exact ⟨_, hK, rfl⟩)
        refine wpIn_wide.2 ?_
        go_wp2
        refine ⟨by simp, .inl ⟨_, _, rfl, run_takeDeferred hK, ?_⟩⟩
        refine ⟨.tuple #[.string ⟨last.2.toArray⟩, .bool true], ?_, rfl, ?_⟩
        · simp [results, Tryz.results7, go_sem, d5, d6]
        · exact hB.trans (belowK_b (w := w) (Nat.le_refl _) _ D _ _ (by omega) hK rfl rfl)
    | some r =>
      have hD := fun w hT => laid_any w v T a b hT HS.out
      rw [hl] at hD
      unfold LaidPost at hD
      simp only at hD
      have hnx : nextOf T a.data.toList b.data.toList = ((V ++ [b.data.toList]).take 1).reverse.find? fun r => linkedOf T a.data.toList r := by
        unfold nextOf wayTo
        rw [if_neg hab, hl, HV2.out]
        unfold viaOf
        rw [hl]
      obtain ⟨l', hl'⟩ : ∃ l', l' = (V ++ [b.data.toList]).take 1 := ⟨_, rfl⟩
      rw [← hl'] at hnx
      rw [hnx]
      obtain ⟨R, hR⟩ : ∃ R, R = l'.reverse.find? fun r => linkedOf T a.data.toList r := ⟨_, rfl⟩
      rw [← hR]
      have HR := Lib.hid hR
      have HLL := Lib.hid hl'
      clear hl hR hl' hnx
      refine (callsIn_wide (n := 6)).1 ?_
      refine callsIn_of_wp_marks Tryz.func7 rfl trivial ?_ rfl
      simp only [Tryz.ntmps7, List.size_toArray, List.length_cons, List.length_nil, Nat.reduceAdd, Nat.reduceSub, Array.replicate_succ, Array.replicate_zero, List.push_toArray, List.append_toArray, List.nil_append, List.cons_append]
      refine wpIn_wide.2 ?_
      go_wp2_with (first
        | (go_at_call 14; refine hV.mono ?_; rintro e w5 ⟨ad, c, rfl, ho, hb5⟩; rw [← HW4.out] at ho hb5; obtain ⟨a0, a1, a2, a3⟩ := KEEP.out w5 hb5)
        | (at_builtin; refine wpList_append_text _ rfl (.tmp 19) (.tmp 21) rfl w4.heap.size ad V.length c V rfl (ho.alloc _) w5.heap.size b.data.toList rfl (heap_alloc_new _ _) (by omega) (by have := hb5.size; simp; omega) ?_; intro g6 cap6 w6 hown6 hb6; have hcz := own_cap1 hown6; have acc6 : Below w4.heap.size w4 w6 := hb5.trans (((Below.refl _ _).alloc hb5.size _).trans hb6); clear ho hb6 a0 a1 a2 a3; obtain ⟨a0, a1, a2, a3⟩ := KEEP.out w6 acc6)
        | (go_at_call 22; refine (hD _ (HT.out.below (ACC.out.trans (acc6.mono ACC.out.size)))).mono ?_; rintro e w7 ⟨ad7, c7, rfl, ho7, hb7⟩)
        | (go_at_call 23; refine (backward_any _ _ _ _).mono ?_; rintro e w8 ⟨rfl, h8⟩; have H8 := Lib.hid h8; clear h8))
      have hn7 := own_below hown6 hb7
      have hz8 : w8.heap.size = w7.heap.size + 1 := by rw [H8.out]; simp
      have hb8 : Below w7.heap.size w7 w8 := by rw [H8.out]; exact (Below.refl _ _).alloc (Nat.le_refl _) _
      have acc8 : Below w4.heap.size w4 w8 := acc6.trans ((hb7.mono acc6.size).trans (hb8.mono (Nat.le_trans acc6.size hb7.size)))
      have bS : w8.cell? ⟨w7.heap.size, 0, none⟩ = some (.slice (some ⟨g6, 0, none⟩) 1 cap6) := by rw [H8.out]; exact cell_new rfl _ _ rfl
      have hA8 : At w8 (some ⟨g6, 0, none⟩) 1 ((V ++ [b.data.toList]).take 1) := ((At.owns hn7).take (by omega)).below hb8
      have hg6 : g6 < w8.heap.size := by
        obtain ⟨b', off', e', hlt', _⟩ := hA8.cell (by omega)
        simp only [Option.some.injEq, Addr.mk.injEq] at e'
        rw [e'.1]; exact hlt'
      have HA8 := Lib.hid hA8
      obtain ⟨m, hm⟩ : ∃ m, m = 1 := ⟨_, rfl⟩
      have hm2 : m ≤ 100001 := by omega
      rw [← HLL.out] at hA8
      rw [show (Value.slice (some ⟨g6, 0, none⟩) 1 cap6) = Value.slice (some ⟨g6, 0, none⟩) m cap6 by rw [hm]] at bS
      rw [← hm] at hA8
      have hml := hA8.len
      have hK := KEEP.out w8 acc8
      have accw8 := ACC.out.trans (acc8.mono ACC.out.size)
      have hsz8 : w.heap.size + 4 ≤ w8.heap.size := by have := acc8.size; have := HZ.out; omega
      have r2 : w8.heap[w.heap.size + 2]? = some (.cells #[.string ⟨#[]⟩] 9 (0, 0)) := (acc8.block _ (by have := HZ.out; omega)).trans K2.out
      have r3 : w8.heap[w.heap.size + 3]? = some (.cells #[.bool false] 4 (0, 0)) := (acc8.block _ (by have := HZ.out; omega)).trans K3.out
      have HK := Lib.hid hK
      have AW8 := Lib.hid accw8
      have R2 := Lib.hid r2
      have R3 := Lib.hid r3
      have HML := Lib.hid hml
      have BS := Lib.hid bS
      have HA8 := Lib.hid hA8
      clear hK accw8 r2 r3 hml bS hA8 hn7 hz8 hb8 acc8 acc6 hown6 hb7 a0 a1 a2 a3 hb5
      refine (wpIn_wide (n := 6)).1 ?_
      refine wpIn_rangeFunc_ownG (n := 6) (F := Fence.wide) rfl (by omega) (gf := 36) (lb := #[.pointer (some ⟨w7.heap.size, 0, none⟩)]) rfl trivial (enters_of Tryz.func36 (by kernel_rfl) rfl)
        (back_stops Fence.wide 5 trivial rfl (by omega) w7.heap.size w8.heap.size (some ⟨g6, 0, none⟩) m cap6 l' (by omega) w8 (by rw [H8.out]; simp) (Nat.le_refl _) BS.out HA8.out (fun b' off' e' => by simp only [Option.some.injEq, Addr.mk.injEq] at e'; rw [← e'.1]; exact hg6)) belowK_t (belowK_b (Nat.le_refl _)) (Below.refl _ _) (fun _ => rfl)
        (fun pre W => (∀ p ∈ pre, linkedOf T a.data.toList p.2 = false) ∧ Below w8.heap.size w8 W)
        (fun c pre W => (c = .ret ∧ ∃ ini last, pre = ini ++ [last] ∧ (∀ p ∈ ini, linkedOf T a.data.toList p.2 = false) ∧ linkedOf T a.data.toList last.2 = true ∧ W.cell? ⟨w.heap.size + 1 + 1, 0, none⟩ = some (.string ⟨last.2.toArray⟩) ∧ W.cell? ⟨w.heap.size + 1 + 1 + 1, 0, none⟩ = some (.bool true)) ∧ Below w.heap.size w W)
        (OwnFrom.and (Own.from (fun s A B row hs hg hr => hs) _) (ownFrom_below (Nat.le_refl _) (Nat.le_refl _)))
        (fun c => OwnFrom.and (Own.from (fun s A B row hs hg hr => by obtain ⟨hc, ini, last, e1, e2, e3, e4, e5⟩ := hs; exact ⟨hc, ini, last, e1, e2, e3, cell_kept e4 hg hr, cell_kept e5 hg hr⟩) _) (ownFrom_below (Nat.le_refl _) AW8.out.size))
        ⟨by simp, Below.refl _ _⟩ ?a₁2 ?assign2 ?body2 ?done2 ?stop2
      case assign2 =>
        intro l x W K hK
        gi_wp2
        exact hK
      case body2 =>
        rintro l pre x W ⟨hne, hB⟩ _
        have hB2 := AW8.out.trans (hB.mono AW8.out.size)
        have hT2 := HT.out.below hB2
        have hL := linked_any W v T a ⟨x.2.toArray⟩ hT2 (by omega)
        have hk := HK.out
        have x0 := (hB.cell (p := ⟨w.heap.size, 0, none⟩) (by show w.heap.size < _; omega)).trans hk.1
        have x1 := (hB.cell (p := ⟨w.heap.size, 1, none⟩) (by show w.heap.size < _; omega)).trans hk.2.1
        have x2 := (hB.cell (p := ⟨w.heap.size, 2, none⟩) (by show w.heap.size < _; omega)).trans hk.2.2.1
        have x3 := (hB.cell (p := ⟨w.heap.size + 1, 0, none⟩) (by show w.heap.size + 1 < _; omega)).trans hk.2.2.2
        have HNE := Lib.hid hne
        have HB := Lib.hid hB
        have HB2 := Lib.hid hB2
        clear hne hB hB2 hT2 hk
        cases hlk : linkedOf T a.data.toList x.2 with
        | false =>
          rw [show linkedOf T a.data.toList (⟨x.2.toArray⟩ : ByteArray).data.toList = false from hlk] at hL
          have HLK := Lib.hid hlk
          clear hlk
          gi_wp2_with (refine ⟨trivial, ?_⟩; gi_at_call 11; refine (CallsIn.inRound l (callsIn_wide.2 hL)).mono ?_; rintro e w9 ⟨rfl, hb9⟩)
          exact ⟨keeps_below hb9, hb9.mono HB.out.size, fun p hp => (List.mem_append.1 hp).elim (HNE.out p) (fun e => by simp at e; subst e; exact HLK.out), HB.out.trans (hb9.mono HB.out.size)⟩
        | true =>
          rw [show linkedOf T a.data.toList (⟨x.2.toArray⟩ : ByteArray).data.toList = true from hlk] at hL
          have HLK := Lib.hid hlk
          clear hlk
          have hres : ∀ w9, Below W.heap.size W w9 → w9.cell? ⟨w.heap.size + 1 + 1, 0, none⟩ = some (.string ⟨#[]⟩) ∧ w9.frozen? ⟨w.heap.size + 1 + 1, 0, none⟩ = false ∧ w9.cell? ⟨w.heap.size + 1 + 1 + 1, 0, none⟩ = some (.bool false) ∧ w9.frozen? ⟨w.heap.size + 1 + 1 + 1, 0, none⟩ = false := fun w9 h => by
            have h2 : w9.heap[w.heap.size + 1 + 1]? = some (.cells #[.string ⟨#[]⟩] 9 (0, 0)) := ((HB.out.trans (h.mono HB.out.size)).block _ (by omega)).trans R2.out
            have h3 : w9.heap[w.heap.size + 1 + 1 + 1]? = some (.cells #[.bool false] 4 (0, 0)) := ((HB.out.trans (h.mono HB.out.size)).block _ (by omega)).trans R3.out
            exact ⟨by simp [World.cell?, h2], by simp [World.frozen?, h2], by simp [World.cell?, h3], by simp [World.frozen?, h3]⟩
          have HRES := Lib.hid hres
          clear hres
          gi_wp2_with (refine ⟨trivial, ?_⟩; gi_at_call 11; refine (CallsIn.inRound l (callsIn_wide.2 hL)).mono ?_; rintro e w9 ⟨rfl, hb9⟩; obtain ⟨y0, y1, y2, y3⟩ := HRES.out w9 hb9)
          have hB9 := HB2.out.trans (hb9.mono HB2.out.size)
          refine ⟨(keeps_below hb9).trans (((KeepsOthers.setCell _ _ _).trans (KeepsOthers.setCell _ _ _)).from _), ⟨rfl, pre, x, rfl, HNE.out, HLK.out, ?_, ?_⟩, ?_⟩
          · rw [World.cell?_setCell_other _ _ _ _ (by simp)]
            exact World.cell?_setCell_same' _ _ _ (by rw [y0]; rfl)
          · refine World.cell?_setCell_same' _ _ _ ?_
            rw [World.cell?_setCell_other _ _ _ _ (by simp), y2]
            rfl
          · exact (hB9.setCell (p := ⟨w.heap.size + 1 + 1, 0, none⟩) (by show w.heap.size ≤ w.heap.size + 1 + 1; omega) _).setCell (p := ⟨w.heap.size + 1 + 1 + 1, 0, none⟩) (by show w.heap.size ≤ w.heap.size + 1 + 1 + 1; omega) _
      case done2 =>
        rintro D ys W hD rfl ⟨hne, hB⟩ hK
        have hR : R = none := by
          rw [HR.out]
          rw [← HML.out] at hne
          exact back_all hne
        subst hR
        have h2 : W.heap[w.heap.size + 1 + 1]? = some (.cells #[.string ⟨#[]⟩] 9 (0, 0)) := (hB.block _ (by omega)).trans R2.out
        have h3 : W.heap[w.heap.size + 1 + 1 + 1]? = some (.cells #[.bool false] 4 (0, 0)) := (hB.block _ (by omega)).trans R3.out
        have y0 : W.cell? ⟨w.heap.size + 1 + 1, 0, none⟩ = some (.string ⟨#[]⟩) := by simp [World.cell?, h2]
        have y1 : W.frozen? ⟨w.heap.size + 1 + 1, 0, none⟩ = false := by simp [World.frozen?, h2]
        have y2 : W.cell? ⟨w.heap.size + 1 + 1 + 1, 0, none⟩ = some (.bool false) := by simp [World.cell?, h3]
        have y3 : W.frozen? ⟨w.heap.size + 1 + 1 + 1, 0, none⟩ = false := by simp [World.frozen?, h3]
        clear h2 h3
        have HK5 := Lib.hid hK
        have HB := Lib.hid hB
        have HD := Lib.hid hD
        clear hK hB hne hD
        go_wp2
        have hK' := ((KeepsOthers.setCell W ⟨w.heap.size + 1 + 1, 0, none⟩ (.string ⟨#[]⟩)).trans (KeepsOthers.setCell _ ⟨w.heap.size + 1 + 1 + 1, 0, none⟩ (.bool false))).same D _ HK5.out rfl
        have c5 : ((W.setCell ⟨w.heap.size + 1 + 1, 0, none⟩ (.string ⟨#[]⟩)).setCell ⟨w.heap.size + 1 + 1 + 1, 0, none⟩ (.bool false)).cell? ⟨w.heap.size + 1 + 1, 0, none⟩ = some (.string ⟨#[]⟩) := by
          rw [World.cell?_setCell_other _ _ _ _ (by simp)]
          exact World.cell?_setCell_same' _ _ _ (by rw [y0]; rfl)
        have c6 : ((W.setCell ⟨w.heap.size + 1 + 1, 0, none⟩ (.string ⟨#[]⟩)).setCell ⟨w.heap.size + 1 + 1 + 1, 0, none⟩ (.bool false)).cell? ⟨w.heap.size + 1 + 1 + 1, 0, none⟩ = some (.bool false) := by
          refine World.cell?_setCell_same' _ _ _ ?_
          rw [World.cell?_setCell_other _ _ _ _ (by simp), y2]
          rfl
        have d5 := cell_kept c5 (grownBy_putObj' _ D (.deferred none)) (fun r e => by cases e; exact ⟨_, hK', rfl⟩)
        have d6 := cell_kept c6 (grownBy_putObj' _ D (.deferred none)) (fun r e => by cases e; exact ⟨_, hK', rfl⟩)
        refine ⟨by simp, .inl ⟨_, _, rfl, run_takeDeferred hK', ?_⟩⟩
        refine ⟨.tuple #[.string ⟨#[]⟩, .bool false], ?_, rfl, ?_⟩
        · simp [results, Tryz.results7, go_sem, d5, d6]
        · have h9 := ((AW8.out.trans (HB.out.mono AW8.out.size)).setCell (p := ⟨w.heap.size + 1 + 1, 0, none⟩) (by show w.heap.size ≤ w.heap.size + 1 + 1; omega) (.string ⟨#[]⟩)).setCell (p := ⟨w.heap.size + 1 + 1 + 1, 0, none⟩) (by show w.heap.size ≤ w.heap.size + 1 + 1 + 1; omega) (.bool false)
          exact h9.trans (belowK_b (w := w) (Nat.le_refl _) _ D _ _ (by have := HD.out; omega) hK' rfl rfl)
      case stop2 =>
        rintro D c' pre W hD ⟨k, hk, rfl⟩ ⟨⟨rfl, ini, last, e1, e2, e3, c5, c6⟩, hB⟩ hK
        have hR : R = some last.2 := by
          rw [HR.out]
          exact back_one (by have := HML.out; omega) e1 e2 e3
        subst hR
        have d5 := cell_kept c5 (grownBy_putObj' _ D (.deferred none)) (fun r e => by cases e; exact ⟨_, hK, rfl⟩)
        have d6 := cell_kept c6 (grownBy_putObj' _ D (.deferred none)) (fun r e => by cases e; exact ⟨_, hK, rfl⟩)
        refine wpIn_wide.2 ?_
        go_wp2
        refine ⟨by simp, .inl ⟨_, _, rfl, run_takeDeferred hK, ?_⟩⟩
        refine ⟨.tuple #[.string ⟨last.2.toArray⟩, .bool true], ?_, rfl, ?_⟩
        · simp [results, Tryz.results7, go_sem, d5, d6]
        · exact hB.trans (belowK_b (w := w) (Nat.le_refl _) _ D _ _ (by omega) hK rfl rfl)

end Go.Proofs.YtcleonpckgfdhaaGreatDoor
