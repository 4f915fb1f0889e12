/-
  append of a row of texts to a row of texts, as one law.
-/
import Derived.Test.YtcleonpckgfdhaaGreatDoorApp
import Derived.Deep.Upon
set_option linter.unusedVariables false
set_option linter.unusedSimpArgs false
namespace Go.Proofs.YtcleonpckgfdhaaGreatDoor
open Go Go.RowKit Go.Lib Go.Shelf

theorem wpList_append_texts {ops : Array Oper} {rest : List Oper} {o : Oper} {a : Act} {Q : Exit → Act → World → Prop} (w : World) (hgd : o.guard = none) (s x : Operand)
    (ho : o.op = .call { callee := .builtin .append, args := #[s, x], argTypes := #[22, 22] }) (base : Nat) (ad : Option Addr) (n c : Nat) (l : List Str) (hs : a.eval s = .slice ad n c) (hown : w.ownsRow base 9 1 (.slice ad n c) n (strs l))
    (ad2 : Option Addr) (m c2 : Nat) (l2 : List Str) (hx : a.eval x = .slice ad2 m c2) (hA : At w ad2 m l2) (hn : n ≤ 2200000) (hm : m ≤ 2200000) (hbase : base ≤ w.heap.size)
    (h : ∀ ad' cap w', w'.ownsRow base 9 1 (.slice ad' (n + m) cap) (n + m) (strs (l ++ l2)) → Below base w w' → wpList Tryz.prog ops Q rest (a.put o.dst (.slice ad' (n + m) cap)) w') : wpList Tryz.prog ops Q (o :: rest) a w := by
  have hI := info_str
  rw [Option.map_eq_some_iff] at hI
  obtain ⟨i0, hi, he⟩ := hI
  simp only [Prod.mk.injEq] at he
  rcases Nat.eq_zero_or_pos m with h0 | h0
  · subst h0
    have hl2 : l2 = [] := List.length_eq_zero_iff.1 hA.len
    subst hl2
    have hsrc : Src Tryz.prog i0.size 22 (.slice ad2 0 c2) 0 [] w := by
      rw [he.2.1]
      cases ad2 with
      | none => exact Src.ofNil w (e' := 9) Tryz.underlying22 c2
      | some b => exact Src.ofSlice w (e' := 9) Tryz.underlying22 b 0 c2 [] rfl (fun j u hu => by simp at hu) (fun u hu => by simp at hu)
    have hcap : n ≤ c := by
      rcases hown.2 with ⟨hv, hn0⟩ | ⟨g, cap, cur, hv, _, _, hc, _⟩
      · simp only [Value.slice.injEq] at hv
        omega
      · simp only [Value.slice.injEq] at hv
        omega
    have hrun := run_append_nothing (P := Tryz.prog) w 22 22 o.type 9 i0 Tryz.underlying22 hi ad n c hcap (.slice ad2 0 c2) hsrc
    refine wpList_plain hgd fun K' hK' => ?_
    unfold Oper.wp execOp
    simp only [ho, resolve, invoke, builtin, Sem.run_bind, Sem.run_pure, Result.andThen_ok, List.map_toArray, List.map_cons, List.map_nil, hs, hx, hrun]
    exact hK' _ _ (h ad c w (by simpa using hown) (Below.refl _ _))
  · obtain ⟨b, off, rfl, hlt, hcell⟩ := hA.cell h0
    have hl2 := hA.len
    refine wpList_append_lies w hgd s x 22 ho base 9 i0 (.string ⟨#[]⟩) 1 16 Tryz.underlying22 hi he.1 he.2.1 he.2.2 rfl (by decide) (.slice ad n c) n (strs l) hs hown ⟨b, off, none⟩ m c2 (strs l2) hx (by rw [strs_length]; omega) (fun j u hu => ?_) (strs_one l2) h0 (by unfold maxLen; omega) (by omega) hbase _ rfl ?_
    · have hj : j < l2.length := by
        have := (List.getElem?_eq_some_iff.1 hu).1
        rw [strs_length] at this
        exact this
      have hadd : (⟨b, off, none⟩ : Addr).add j = ⟨b, off + j, none⟩ := by unfold Addr.add; split <;> simp_all
      rw [hadd, hcell j (by omega), getElem!_pos l2 j hj]
      rw [strs, List.getElem?_map, List.getElem?_eq_getElem hj] at hu
      simpa [strv] using hu
    · intro g cap w' hown' hgrow hat hlt'
      refine h _ cap w' ?_ ((Below.refl base w).grown hgrow hbase (fun k hk => (hown.lt k hk).1))
      rw [show strs (l ++ l2) = strs l ++ strs l2 by simp [strs]]
      exact hown'

theorem wpList_lit_text {w : World} (y : Str) : (w.alloc (.cells #[.string ⟨y.toArray⟩] 9)).ownsRow w.heap.size 9 1 (.slice (some ⟨w.heap.size, 0, none⟩) 1 1) 1 (strs [y]) :=
  World.ownsRow_lit w #[.string ⟨y.toArray⟩] 1 (Nat.le_refl _) (by unfold maxLen; omega) rfl
end Go.Proofs.YtcleonpckgfdhaaGreatDoor
