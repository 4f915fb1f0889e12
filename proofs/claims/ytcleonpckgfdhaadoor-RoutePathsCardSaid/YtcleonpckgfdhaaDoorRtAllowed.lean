/-
  route.Allowed; an append of a row where the order is drawn.
-/
import Derived.Test.YtcleonpckgfdhaaDoorRtKnown
set_option linter.unusedVariables false
set_option linter.unusedSimpArgs false
set_option maxRecDepth 100000
namespace Go.Proofs.YtcleonpckgfdhaaDoor
open Go Go.RowKit Go.Lib Go.Shelf

/-- Appending a row to one that is owned: one operation; every block but the row's own stands as it was. -/
theorem wpOp_append_texts {o : Oper} {a : Act} {K : Act → World → Prop} {Q : Exit → Act → World → Prop} (w : World) (s x : Operand)
    (ho : o.op = .call { callee := .builtin .append, args := #[s, x], argTypes := #[22, 22] }) (base : Nat) (ad : Option Addr) (n c : Nat) (l : List Str) (hs : a.eval s = .slice ad n c) (hown : w.ownsRow base 9 1 (.slice ad n c) n (strs l))
    (ad2 : Option Addr) (m c2 : Nat) (l2 : List Str) (hx : a.eval x = .slice ad2 m c2) (hA : At w ad2 m l2) (hn : n ≤ 2200000) (hm : m ≤ 2200000) (hbase : base ≤ w.heap.size)
    (h : ∀ ad' cap w', w'.ownsRow base 9 1 (.slice ad' (n + m) cap) (n + m) (strs (l ++ l2)) → Below base w w' → w.grownBy w' (Value.ownBlock (.slice ad n c)) → K (a.put o.dst (.slice ad' (n + m) cap)) w') : o.wp Tryd.prog a w K Q := by
  have hI := info_str
  rw [Option.map_eq_some_iff] at hI
  obtain ⟨i0, hi, he⟩ := hI
  simp only [Prod.mk.injEq] at he
  rcases Nat.eq_zero_or_pos m with h0 | h0
  · subst h0
    have hl2 : l2 = [] := List.length_eq_zero_iff.1 hA.len
    subst hl2
    have hsrc : Src Tryd.prog i0.size 22 (.slice ad2 0 c2) 0 [] w := by
      rw [he.2.1]
      cases ad2 with
      | none => exact Src.ofNil w (e' := 9) Tryd.underlying22 c2
      | some b => exact Src.ofSlice w (e' := 9) Tryd.underlying22 b 0 c2 [] rfl (fun j u hu => by simp at hu) (fun u hu => by simp at hu)
    have hcap : n ≤ c := own_cap hown
    have hrun := run_append_nothing (P := Tryd.prog) w 22 22 o.type 9 i0 Tryd.underlying22 hi ad n c hcap (.slice ad2 0 c2) hsrc
    unfold Oper.wp execOp
    simp only [ho, resolve, invoke, builtin, Sem.run_bind, Sem.run_pure, Result.andThen_ok, List.map_toArray, List.map_cons, List.map_nil, hs, hx, hrun]
    exact h ad c w (by simpa using hown) (Below.refl _ _) ⟨rfl, rfl, rfl, Nat.le_refl _, fun _ _ _ => rfl⟩
  · obtain ⟨b, off, rfl, hlt, hcell⟩ := hA.cell h0
    have hl2 := hA.len
    refine wp_append_lies w s x 22 ho base 9 i0 (.string ⟨#[]⟩) 1 16 Tryd.underlying22 hi he.1 he.2.1 he.2.2 rfl (by decide) (.slice ad n c) n (strs l) hs hown ⟨b, off, none⟩ m c2 (strs l2) hx (by rw [strs_length]; omega) (fun j u hu => ?_) (strs_one l2) h0 (by unfold maxLen; omega) (by omega) hbase _ rfl ?_
    · have hj : j < l2.length := by
        have := (List.getElem?_eq_some_iff.1 hu).1
        rw [strs_length] at this
        exact this
      have hadd : (⟨b, off, none⟩ : Addr).add j = ⟨b, off + j, none⟩ := by unfold Addr.add; split <;> simp_all
      rw [hadd, hcell j (by omega), getElem!_pos l2 j hj]
      rw [strs, List.getElem?_map, List.getElem?_eq_getElem hj] at hu
      simpa [strv] using hu
    · intro g cap w' hown' hgrow hat hlt'
      refine h _ cap w' ?_ ((Below.refl base w).grown hgrow hbase (fun k hk => (hown.lt k hk).1)) hgrow
      rw [show strs (l ++ l2) = strs l ++ strs l2 by simp [strs]]
      exact hown'

theorem notIn_any (W : World) (q : Nat) (ad : Option Addr) (n c : Nat) (L : List Str) (x : Str) (hA : At W ad n L) (hn : n ≤ 100000) (hp : W.cell? ⟨q, 0, none⟩ = some (.slice ad n c)) :
    Calls Tryd.prog 44 #[.string ⟨x.toArray⟩, .pointer (some ⟨q, 0, none⟩)] W fun e w' => e = .returned (.bool (!decide (x ∈ L))) ∧ Below W.heap.size W w' := by
  have hC := contains_any W ad n c L x hA hn
  clear hA
  cases hx : decide (x ∈ L) <;> (
    rw [hx] at hC
    clear hx
    go_enter Tryd.func44, Tryd.ntmps44
    go_wp2_with (go_at_call 31; refine hC.mono ?_; rintro e w2 ⟨rfl, h2⟩; replace h2 := h2.symm; subst h2)
    go_ret
    exact ⟨rfl, Below.refl _ _⟩)

set_option maxHeartbeats 1000000 in
theorem allowed_any (w : World) (v : Tv) (T : Topo) (a b : ByteArray) (ad : Option Addr) (n c : Nat) (L : List Str) (hT : Tt w v T) (hS : Short T) (hg : Glob w) (ha : a.size < 90000) (hb : b.size < 90000) (hA : At w ad n L) (hn : n ≤ 4611686018427387904) :
    Calls Tryd.prog 26 #[.agg #[.slice v.ar v.nr v.cr, .slice v.al v.nl v.cl, .slice v.ap v.np v.cp], .string a, .string b, .slice ad n c] w fun e w' => e = .returned (.bool (allowedOf T a.data.toList b.data.toList L)) ∧ Below w.heap.size w w' := by
  have acc : Below w.heap.size w (w.alloc (.cells #[.slice v.ar v.nr v.cr, .slice v.al v.nl v.cl, .slice v.ap v.np v.cp] 26)) := (Below.refl _ _).alloc (Nat.le_refl _) _
  have hVia := via_any _ v T a b (hT.below acc) hS (hg.below acc) ha hb
  have hVl := via_len hS a.data.toList b.data.toList
  have hR : (!L.any fun x => !decide (x ∈ viaOf T a.data.toList b.data.toList)) = allowedOf T a.data.toList b.data.toList L := by
    unfold allowedOf
    rw [List.not_any_eq_all_not]
    congr 1
    funext x
    simp
  obtain ⟨R, hR2⟩ : ∃ R, R = allowedOf T a.data.toList b.data.toList L := ⟨_, rfl⟩
  rw [← hR2] at hR ⊢
  clear hR2
  generalize viaOf T a.data.toList b.data.toList = V at hVia hVl hR
  obtain ⟨m, hm⟩ : ∃ m, m = V.length := ⟨_, rfl⟩
  rw [← hm] at hVia hVl
  have hAny := fun W q ad' c' (hAV : At W ad' m V) (hA : At W ad n L) (hp : W.cell? ⟨q, 0, none⟩ = some (.slice ad' m c')) (hq : q < W.heap.size) => notInAny_any W q ad n c L (fun x => !decide (x ∈ V)) hA hn (fun W2 x h2 hx => notIn_any W2 q ad' m c' V x (hAV.below h2) hVl ((h2.cell (p := ⟨q, 0, none⟩) hq).trans hp))
  have HANY := Lib.hid hAny
  have HVIA := Lib.hid hVia
  have HR := Lib.hid hR
  have HA := Lib.hid (hA.below acc)
  have HACC := Lib.hid acc
  obtain ⟨Y, hY⟩ : ∃ Y, Y = L.any fun x => !decide (x ∈ V) := ⟨_, rfl⟩
  clear hVia hAny hR hA hT hS hg hm hVl acc
  have HY := Lib.hid hY
  have hYR : (!Y) = R := by rw [hY]; exact HR.out
  subst hYR
  clear hY
  go_enter Tryd.func26, Tryd.ntmps26
  go_wp2_with (first
    | (go_at_call 25; refine HVIA.out.mono ?_; rintro e w2 ⟨av, cv, rfl, ho, hb2⟩)
    | (go_at_call 33; refine (HANY.out _ _ _ _ ((At.owns ho).below ((Below.refl _ _).alloc (Nat.le_refl _) _)) ((HA.out.below hb2).below ((Below.refl _ _).alloc (Nat.le_refl _) _)) (cell_new rfl _ _ rfl) (by simp)).mono ?_; rintro e w3 ⟨rfl, hb3⟩; rw [← HY.out]))
  go_ret
  exact ⟨rfl, HACC.out.trans ((hb2.trans ((((Below.refl _ _).alloc (Nat.le_refl _) _).trans (hb3.mono (by simp))).mono hb2.size)).mono HACC.out.size)⟩
end Go.Proofs.YtcleonpckgfdhaaDoor
