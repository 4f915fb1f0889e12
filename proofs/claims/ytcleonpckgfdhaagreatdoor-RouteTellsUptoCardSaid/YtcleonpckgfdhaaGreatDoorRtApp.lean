/-
  append of a link to a row of links.
-/
import Derived.Test.YtcleonpckgfdhaaGreatDoorRtCf
set_option linter.unusedVariables false
set_option linter.unusedSimpArgs false
set_option maxRecDepth 100000
namespace Go.Proofs.YtcleonpckgfdhaaGreatDoor
open Go Go.RowKit Go.Lib Go.Shelf

def lnks (L : List Link) : List Value := L.flatMap linkv
theorem linkv_len (x : Link) : (linkv x).length = 2 := rfl
theorem linkv_one (x : Link) : ∀ u ∈ linkv x, u.oneCell' = true := by
  intro u hu
  simp only [linkv, List.mem_cons, List.not_mem_nil, or_false] at hu
  rcases hu with rfl | rfl <;> rfl
theorem lnks_len (L : List Link) : (lnks L).length = L.length * 2 := by
  induction L with
  | nil => rfl
  | cons a l ih => simp only [lnks, List.flatMap_cons, List.length_append, List.length_cons, linkv_len] at ih ⊢; rw [ih]; omega
theorem lnks_get (L : List Link) (j c : Nat) (hj : j < L.length) (hc : c < 2) : (lnks L)[j * 2 + c]? = (linkv L[j]!)[c]? := by
  induction L generalizing j with
  | nil => simp at hj
  | cons a l ih =>
    have e : lnks (a :: l) = linkv a ++ lnks l := rfl
    rw [e]
    cases j with
    | zero => rw [List.getElem?_append_left (by rw [linkv_len]; omega), Nat.zero_mul, Nat.zero_add]; rfl
    | succ j =>
      rw [List.getElem?_append_right (by rw [linkv_len]; omega), linkv_len, show (j + 1) * 2 + c - 2 = j * 2 + c by omega, ih j (by simpa using hj)]
      rfl
theorem info_link : (Tryz.prog.info? 39).map (fun i => (i.zero, i.size, i.bytes)) = some (some (.agg #[.string ⟨#[]⟩, .string ⟨#[]⟩]), 2, 32) := by kernel_rfl

theorem LinksAt.owns {w : World} {base : Nat} {ad : Option Addr} {n c : Nat} {L : List Link} (h : w.ownsRow base 39 2 (.slice ad n c) n (lnks L)) : LinksAt w ad n L := by
  have hl : L.length = n := by have := h.1; rw [lnks_len] at this; omega
  refine ⟨hl, fun hn => ?_⟩
  obtain ⟨g, cap, e, hb, hlt⟩ := World.ownsRow.form h hn
  simp only [Value.slice.injEq, true_and] at e
  obtain ⟨rfl, rfl⟩ := e
  refine ⟨g, 0, rfl, hlt, fun j hj => ⟨?_, ?_⟩⟩
  · rw [Nat.zero_add, h.cellAt (j * 2) (by omega), show j * 2 = j * 2 + 0 from rfl, lnks_get L j 0 (by omega) (by omega)]
    rfl
  · rw [Nat.zero_add, h.cellAt (j * 2 + 1) (by omega), lnks_get L j 1 (by omega) (by omega)]
    rfl
theorem ownL_below {w w' : World} {base : Nat} {v : Value} {n : Nat} {L : List Link} (h : w.ownsRow base 39 2 v n (lnks L)) (hb : Below w.heap.size w w') : w'.ownsRow base 39 2 v n (lnks L) :=
  h.kept (row := none) ⟨hb.os, hb.tape, hb.output, hb.size, fun k hk _ => hb.block k hk⟩ (by cases v.ownBlock <;> simp)
theorem ownL_cap {w : World} {base n c : Nat} {ad : Option Addr} {L : List Link} (h : w.ownsRow base 39 2 (.slice ad n c) n (lnks L)) : n ≤ c := by
  rcases h.2 with ⟨e, h0⟩ | ⟨g', cap', cur, e, _, _, h3, _⟩
  · simp only [Value.slice.injEq] at e
    omega
  · simp only [Value.slice.injEq] at e
    rw [e.2.2]
    exact h3

theorem wpList_append_link {ops : Array Oper} {rest : List Oper} {o : Oper} {a : Act} {Q : Exit → Act → World → Prop} (w : World) (hgd : o.guard = none) (s x : Operand)
    (ho : o.op = .call { callee := .builtin .append, args := #[s, x], argTypes := #[23, 23] }) (base : Nat) (ad : Option Addr) (n c : Nat) (L : List Link) (hs : a.eval s = .slice ad n c) (hown : w.ownsRow base 39 2 (.slice ad n c) n (lnks L))
    (blk : Nat) (f t : Str) (hx : a.eval x = .slice (some ⟨blk, 0, none⟩) 1 1) (hblk : w.heap[blk]? = some (.cells #[.string ⟨f.toArray⟩, .string ⟨t.toArray⟩] 39 (0, 0))) (hn : n ≤ 2200000) (hbase : base ≤ w.heap.size)
    (h : ∀ g cap w', w'.ownsRow base 39 2 (.slice (some ⟨g, 0, none⟩) (n + 1) cap) (n + 1) (lnks (L ++ [(f, t)])) → Below base w w' → wpList Tryz.prog ops Q rest (a.put o.dst (.slice (some ⟨g, 0, none⟩) (n + 1) cap)) w') : wpList Tryz.prog ops Q (o :: rest) a w := by
  have hI := info_link
  rw [Option.map_eq_some_iff] at hI
  obtain ⟨i0, hi, he⟩ := hI
  simp only [Prod.mk.injEq] at he
  refine wpList_append_lies w hgd s x 23 ho base 39 i0 (.agg #[.string ⟨#[]⟩, .string ⟨#[]⟩]) 2 32 Tryz.underlying23 hi he.1 he.2.1 he.2.2 rfl (by decide) (.slice ad n c) n (lnks L) hs hown ⟨blk, 0, none⟩ 1 1 (linkv (f, t)) hx rfl (World.news_of_block (cs := (linkv (f, t)).toArray) hblk) (linkv_one _) (by decide) (by unfold maxLen; omega) (by omega) hbase _ rfl ?_
  intro g cap w' hown' hgrow hat hlt
  refine h g cap w' ?_ ((Below.refl base w).grown hgrow hbase (fun k hk => (hown.lt k hk).1))
  rw [show lnks (L ++ [(f, t)]) = lnks L ++ linkv (f, t) by simp [lnks]]
  exact hown'
end Go.Proofs.YtcleonpckgfdhaaGreatDoor
