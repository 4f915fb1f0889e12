/-
  append of one text to a row of texts, as one law.
-/
import Derived.Test.YtcleonpckgfdhaaGreatDoorLabels
set_option linter.unusedVariables false
set_option linter.unusedSimpArgs false
namespace Go.Proofs.YtcleonpckgfdhaaGreatDoor
open Go Go.RowKit Go.Lib Go.Shelf

theorem info_str : (Tryz.prog.info? 9).map (fun i => (i.zero, i.size, i.bytes)) = some (some (.string ⟨#[]⟩), 1, 16) := by kernel_rfl

theorem own_below {w w' : World} {base : Nat} {v : Value} {n : Nat} {l : List Str} (h : w.ownsRow base 9 1 v n (strs l)) (hb : Below w.heap.size w w') : w'.ownsRow base 9 1 v n (strs l) :=
  h.kept (row := none) ⟨hb.os, hb.tape, hb.output, hb.size, fun k hk _ => hb.block k hk⟩ (by cases v.ownBlock <;> simp)

theorem wpList_append_text {ops : Array Oper} {rest : List Oper} {o : Oper} {a : Act} {Q : Exit → Act → World → Prop} (w : World) (hgd : o.guard = none) (s x : Operand)
    (ho : o.op = .call { callee := .builtin .append, args := #[s, x], argTypes := #[22, 22] }) (base : Nat) (ad : Option Addr) (n c : Nat) (l : List Str) (hs : a.eval s = .slice ad n c) (hown : w.ownsRow base 9 1 (.slice ad n c) n (strs l))
    (blk : Nat) (y : Str) (hx : a.eval x = .slice (some ⟨blk, 0, none⟩) 1 1) (hblk : w.heap[blk]? = some (.cells #[.string ⟨y.toArray⟩] 9 (0, 0))) (hn : n ≤ 2200000) (hbase : base ≤ w.heap.size)
    (h : ∀ g cap w', w'.ownsRow base 9 1 (.slice (some ⟨g, 0, none⟩) (n + 1) cap) (n + 1) (strs (l ++ [y])) → Below base w w' → wpList Tryz.prog ops Q rest (a.put o.dst (.slice (some ⟨g, 0, none⟩) (n + 1) cap)) w') : wpList Tryz.prog ops Q (o :: rest) a w := by
  have hI := info_str
  rw [Option.map_eq_some_iff] at hI
  obtain ⟨i0, hi, he⟩ := hI
  simp only [Prod.mk.injEq] at he
  refine wpList_append_lies w hgd s x 22 ho base 9 i0 (.string ⟨#[]⟩) 1 16 Tryz.underlying22 hi he.1 he.2.1 he.2.2 rfl (by decide) (.slice ad n c) n (strs l) hs hown ⟨blk, 0, none⟩ 1 1 [.string ⟨y.toArray⟩] hx rfl (World.news_of_block (cs := #[.string ⟨y.toArray⟩]) hblk) (fun u hu => by simp at hu; subst hu; rfl) (by decide) (by unfold maxLen; omega) (by omega) hbase _ rfl ?_
  intro g cap w' hown' hgrow hat hlt
  refine h g cap w' ?_ ((Below.refl base w).grown hgrow hbase (fun k hk => (hown.lt k hk).1))
  rw [show strs (l ++ [y]) = strs l ++ [.string ⟨y.toArray⟩] by simp [strs, strv]]
  exact hown'
end Go.Proofs.YtcleonpckgfdhaaGreatDoor
