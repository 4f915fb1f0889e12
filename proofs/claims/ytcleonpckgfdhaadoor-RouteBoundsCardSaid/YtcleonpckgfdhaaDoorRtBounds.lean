/-
  RouteBounds: the law's walk.
-/
import Derived.Test.YtcleonpckgfdhaaDoorRtTreesP
import Derived.Test.YtcleonpckgfdhaaDoorCanon
set_option linter.unusedVariables false
set_option linter.unusedSimpArgs false
set_option maxRecDepth 100000
namespace Go.Proofs.YtcleonpckgfdhaaDoor
open Go Go.RowKit Go.Lib Go.Shelf

theorem bytes_one (w : World) (y : UInt8) : (convert 45 9 (.slice (some ⟨w.heap.size, 0, none⟩) 1 1)).run Tryd.prog (w.alloc (.cells #[.int .u8 (y.toNat : Int)] 5)) = .ok (.string ⟨#[y]⟩) (w.alloc (.cells #[.int .u8 (y.toNat : Int)] 5)) := by
  refine run_convert_bytes_back (w.alloc (.cells #[.int .u8 (y.toNat : Int)] 5)) 45 9 5 ⟨w.heap.size, 0, none⟩ 1 [y] Tryd.underlying45 Tryd.underlying5 Tryd.underlying9 (fun j hj => ?_)
  have hj0 : j = 0 := by simp at hj; omega
  subst hj0
  have hadd : (⟨w.heap.size, 0, none⟩ : Addr).add 0 = ⟨w.heap.size, 0, none⟩ := by unfold Addr.add; split <;> simp_all
  rw [hadd]
  exact (cell_of_row _ _ _ _ _ _ (heap_alloc_new w _)).trans rfl

theorem wpOp_append_link2 {o : Oper} {a : Act} {K : Act → World → Prop} {Q : Exit → Act → World → Prop} (w : World) (s x : Operand)
    (ho : o.op = .call { callee := .builtin .append, args := #[s, x], argTypes := #[23, 23] }) (base : Nat) (ad : Option Addr) (n c : Nat) (L : List Link) (hs : a.eval s = .slice ad n c) (hown : w.ownsRow base 37 2 (.slice ad n c) n (lnks L))
    (blk : Nat) (f t : Str) (hx : a.eval x = .slice (some ⟨blk, 0, none⟩) 1 1) (hblk : w.heap[blk]? = some (.cells #[.string ⟨f.toArray⟩, .string ⟨t.toArray⟩] 37 (0, 0))) (hn : n ≤ 2200000) (hbase : base ≤ w.heap.size)
    (h : ∀ g cap w', w'.ownsRow base 37 2 (.slice (some ⟨g, 0, none⟩) (n + 1) cap) (n + 1) (lnks (L ++ [(f, t)])) → Below base w w' → K (a.put o.dst (.slice (some ⟨g, 0, none⟩) (n + 1) cap)) w') : o.wp Tryd.prog a w K Q := by
  have hI := info_link
  rw [Option.map_eq_some_iff] at hI
  obtain ⟨i0, hi, he⟩ := hI
  simp only [Prod.mk.injEq] at he
  refine wp_append_lies w s x 23 ho base 37 i0 (.agg #[.string ⟨#[]⟩, .string ⟨#[]⟩]) 2 32 Tryd.underlying23 hi he.1 he.2.1 he.2.2 rfl (by decide) (.slice ad n c) n (lnks L) hs hown ⟨blk, 0, none⟩ 1 1 (linkv (f, t)) hx rfl (World.news_of_block (cs := (linkv (f, t)).toArray) hblk) (linkv_one _) (by decide) (by unfold maxLen; omega) (by omega) hbase _ rfl ?_
  intro g cap w' hown' hgrow hat hlt
  refine h g cap w' ?_ ((Below.refl base w).grown hgrow hbase (fun k hk => (hown.lt k hk).1))
  rw [show lnks (L ++ [(f, t)]) = lnks L ++ linkv (f, t) by simp [lnks]]
  exact hown'
theorem keep_other2 {W : World} {bx i g j : Nat} {v u : Value} (hne : g ≠ bx) (h : W.cell? ⟨g, j, none⟩ = some u) : (W.setCell ⟨bx, i, none⟩ v).cell? ⟨g, j, none⟩ = some u :=
  (World.cell?_setCell_far W ⟨bx, i, none⟩ ⟨g, j, none⟩ v (fun e => hne e.symm)).trans h

/-! ### plain -/
def letter (i : Nat) : UInt8 := UInt8.ofNat (65 + i)
theorem letter_int {i : Nat} (h : i ≤ 20) : (65 : Int) + (i : Int) = ((letter i).toNat : Int) := by
  have : (letter i).toNat = 65 + i := by
    unfold letter
    rw [UInt8.toNat_ofNat']
    omega
  omega
def lets (n : Nat) : List Str := (List.range n).map fun i => [letter i]
theorem lets_len (n : Nat) : (lets n).length = n := by simp [lets]
theorem lets_get {n i : Nat} (h : i < n) : (lets n)[i]! = [letter i] := by rw [getElem!_pos (lets n) i (by rw [lets_len]; exact h)]; simp [lets]
theorem lets_succ (n : Nat) : lets (n + 1) = lets n ++ [[letter n]] := by simp [lets, List.range_succ]
theorem lets_nodup : ∀ n, n < 10 → (lets n).Nodup := by decide +kernel
theorem lets_isR : ∀ n, n < 10 → ∀ r ∈ lets n, isR r = true := by decide +kernel
theorem lets_noZ : ∀ n, n < 10 → ([90] : Str) ∉ lets n := by decide +kernel
theorem letter_inj : ∀ i, i < 9 → ∀ j, j < 9 → [letter i] = [letter j] → i = j := by decide +kernel
theorem lets_mem {n i : Nat} (h : i < n) : [letter i] ∈ lets n := by rw [← lets_get h, getElem!_pos (lets n) i (by rw [lets_len]; exact h)]; exact List.getElem_mem _

structure BInv (n : Nat) (L : List Link) (i j k : Nat) : Prop where
  len : L.length = k
  nodup : L.Nodup
  mem : ∀ l ∈ L, ∃ i' j', i' < n ∧ j' < n ∧ i' ≠ j' ∧ (i' < i ∨ (i' = i ∧ j' < j)) ∧ l = ([letter i'], [letter j'])
theorem BInv.nil (n : Nat) : BInv n [] 0 0 0 := ⟨rfl, List.nodup_nil, fun l h => by cases h⟩
theorem BInv.no {n i j k : Nat} {L : List Link} (h : BInv n L i j k) : BInv n L i (j + 1) k := ⟨h.len, h.nodup, fun l hl => by
  obtain ⟨i', j', h1, h2, h3, h4, h5⟩ := h.mem l hl
  exact ⟨i', j', h1, h2, h3, by omega, h5⟩⟩
theorem BInv.row {n i k : Nat} {L : List Link} (h : BInv n L i n k) : BInv n L (i + 1) 0 k := ⟨h.len, h.nodup, fun l hl => by
  obtain ⟨i', j', h1, h2, h3, h4, h5⟩ := h.mem l hl
  exact ⟨i', j', h1, h2, h3, by omega, h5⟩⟩
theorem BInv.yes {n i j k : Nat} {L : List Link} (h : BInv n L i j k) (hi : i < n) (hj : j < n) (hij : i ≠ j) (h9 : n ≤ 9) : BInv n (L ++ [([letter i], [letter j])]) i (j + 1) (k + 1) := by
  refine ⟨by rw [List.length_append, h.len]; rfl, ?_, fun l hl => ?_⟩
  · rw [List.nodup_append]
    refine ⟨h.nodup, by simp, fun y hy z hz e => ?_⟩
    rw [List.mem_singleton.1 hz] at e
    obtain ⟨i', j', h1, h2, h3, h4, h5⟩ := h.mem y hy
    rw [h5, Prod.mk.injEq] at e
    have e1 := letter_inj i' (by omega) i (by omega) e.1
    have e2 := letter_inj j' (by omega) j (by omega) e.2
    omega
  · rcases List.mem_append.1 hl with h1 | h1
    · obtain ⟨i', j', h1, h2, h3, h4, h5⟩ := h.mem l h1
      exact ⟨i', j', h1, h2, h3, by omega, h5⟩
    · exact ⟨i, j, hi, hj, hij, by omega, List.mem_singleton.1 h1⟩
theorem fin0 {n k i j : Nat} {L : List Link} (h : BInv n L i j k) (h9 : n ≤ 9) : decide (topoOk ⟨lets n, L, []⟩) = decide ((1 ≤ n ∧ n ≤ 6) ∧ k ≤ 20) := by
  rw [Bool.eq_iff_iff, decide_eq_true_iff, decide_eq_true_iff]
  unfold topoOk
  simp only [lets_len, h.len]
  constructor
  · rintro ⟨⟨h1, h2, _⟩, ⟨h3, _⟩, _⟩
    exact ⟨⟨h1, h2⟩, h3⟩
  · rintro ⟨⟨h1, h2⟩, h3⟩
    refine ⟨⟨h1, h2, lets_nodup n (by omega), lets_isR n (by omega)⟩, ⟨h3, h.nodup, fun l hl => ?_⟩, by simp, by simp, by simp⟩
    obtain ⟨i', j', a1, a2, a3, _, rfl⟩ := h.mem l hl
    exact ⟨lets_mem a1, lets_mem a2, fun e => a3 (letter_inj i' (by omega) j' (by omega) e)⟩
theorem fin1 {R : List Str} {L : List Link} (h2 : 2 ≤ R.length) (he : R[1]! = R[0]!) : decide (topoOk ⟨R, L, []⟩) = false := by
  refine decide_eq_false fun h => ?_
  have hn := h.1.2.2.1
  simp only at hn
  rw [getElem!_pos R 1 (by omega), getElem!_pos R 0 (by omega)] at he
  have := (List.getElem_inj hn).1 he
  omega
theorem fin2 {R : List Str} {L : List Link} {p q : Str} (h : p = q ∨ q ∉ R) : decide (topoOk ⟨R, L ++ [(p, q)], []⟩) = false := by
  refine decide_eq_false fun ht => ?_
  have := ht.2.1.2.2 (p, q) (by simp)
  rcases h with h | h
  · exact this.2.2 h
  · exact h this.2.1
theorem fin4 {R : List Str} {L : List Link} {p q : Str} : decide (topoOk ⟨R, L, [((p, q), [p])]⟩) = false := by
  refine decide_eq_false fun ht => ?_
  have := ht.2.2.2.2 ((p, q), [p]) (by simp)
  exact (this.2.2.2.2.2 p (by simp)).2.1 rfl

theorem At.off {wa W : World} {bx : Nat} {ad : Option Addr} {n : Nat} {l : List Str} (h : At wa ad n l) (ho : Off bx wa W) (hne : ∀ b off, ad = some ⟨b, off, none⟩ → b ≠ bx) : At W ad n l := by
  refine ⟨h.len, fun hn => ?_⟩
  obtain ⟨b, off, e, hlt, hc⟩ := h.cell hn
  exact ⟨b, off, e, Nat.lt_of_lt_of_le hlt ho.size, fun j hj => (World.cell?_of_block (a := ⟨b, off + j, none⟩) (ho.block b hlt (hne b off e))).trans (hc j hj)⟩
theorem info_way : (Tryd.prog.info? 42).map (fun i => (i.zero, i.size, i.bytes)) = some (some (.agg #[.string ⟨#[]⟩, .string ⟨#[]⟩, .slice none 0 0]), 3, 56) := by kernel_rfl
theorem wpList_append_way {ops : Array Oper} {rest : List Oper} {o : Oper} {a : Act} {Q : Exit → Act → World → Prop} (w : World) (hgd : o.guard = none) (s x : Operand)
    (ho : o.op = .call { callee := .builtin .append, args := #[s, x], argTypes := #[24, 24] }) (base : Nat) (hs : a.eval s = .slice none 0 0)
    (blk : Nat) (f t : Str) (ad : Option Addr) (n c : Nat) (hx : a.eval x = .slice (some ⟨blk, 0, none⟩) 1 1) (hblk : w.heap[blk]? = some (.cells #[.string ⟨f.toArray⟩, .string ⟨t.toArray⟩, .slice ad n c] 42 (0, 0))) (hbase : base ≤ w.heap.size)
    (h : ∀ g cap w', 1 ≤ cap → base ≤ g → g < w'.heap.size → w'.cell? ⟨g, 0, none⟩ = some (.string ⟨f.toArray⟩) → w'.cell? ⟨g, 1, none⟩ = some (.string ⟨t.toArray⟩) → w'.cell? ⟨g, 2, none⟩ = some (.slice ad n c) → Below base w w' → wpList Tryd.prog ops Q rest (a.put o.dst (.slice (some ⟨g, 0, none⟩) 1 cap)) w') : wpList Tryd.prog ops Q (o :: rest) a w := by
  have hI := info_way
  rw [Option.map_eq_some_iff] at hI
  obtain ⟨i0, hi, he⟩ := hI
  simp only [Prod.mk.injEq] at he
  refine wpList_append_lies w hgd s x 24 ho base 42 i0 (.agg #[.string ⟨#[]⟩, .string ⟨#[]⟩, .slice none 0 0]) 3 56 Tryd.underlying24 hi he.1 he.2.1 he.2.2 rfl (by decide) (.slice none 0 0) 0 [] hs (World.ownsRow_nil _ _ _ _) ⟨blk, 0, none⟩ 1 1 [.string ⟨f.toArray⟩, .string ⟨t.toArray⟩, .slice ad n c] hx rfl (World.news_of_block (cs := #[.string ⟨f.toArray⟩, .string ⟨t.toArray⟩, .slice ad n c]) hblk) (fun u hu => by simp at hu; rcases hu with rfl | rfl | rfl <;> rfl) (by decide) (by unfold maxLen; omega) (by omega) hbase _ rfl ?_
  intro g cap w' hown' hgrow hat hlt
  have hcap : 1 ≤ cap := by
    rcases hown'.2 with ⟨e, h0⟩ | ⟨g', cap', cur, e, _, _, h3, _⟩
    · simp at e
    · simp only [Value.slice.injEq] at e
      rw [e.2.2]
      exact h3
  have hlo : base ≤ g := by
    rcases hown'.2 with ⟨e, h0⟩ | ⟨g', cap', cur, e, h2, _⟩
    · simp at e
    · simp only [Value.slice.injEq, Option.some.injEq, Addr.mk.injEq] at e
      rw [e.1.1]
      exact h2
  refine h g cap w' hcap hlo hlt ?_ ?_ ?_ ((Below.refl base w).grown hgrow hbase (fun k hk => by simp [Value.ownBlock] at hk))
  · rw [hown'.cellAt 0 (by omega)]; rfl
  · rw [hown'.cellAt 1 (by omega)]; rfl
  · rw [hown'.cellAt 2 (by omega)]; rfl

set_option maxHeartbeats 16000000 in
theorem routeBounds_in (n links way : Nat) (h9 : n ≤ 9) (h40 : links ≤ 40) (hw4 : way ≤ 4) (w : World) (hg : Glob w) :
    Calls Tryd.prog 8 #[.int .i64 n, .int .i64 links, .int .i64 way] w fun e w' => e = .returned (.bool true) ∧ Below w.heap.size w w' := by
  have z9 : ¬ (9 : Int) < (n : Int) := by omega
  have z40 : ¬ (40 : Int) < (links : Int) := by omega
  have zw4 : ¬ (4 : Int) < (way : Int) := by omega
  have z0 : ¬ (n : Int) < 0 := by omega
  have zl0 : ¬ (links : Int) < 0 := by omega
  have zw0 : ¬ (way : Int) < 0 := by omega
  obtain ⟨w1, hw1⟩ : ∃ w1, w1 = w.alloc (.cells #[.slice none 0 0, .slice none 0 0, .slice none 0 0] 26) := ⟨_, rfl⟩
  have bx1 : BoxAt w1 w.heap.size (.slice none 0 0) (.slice none 0 0) (.slice none 0 0) := by rw [hw1]; exact ⟨cell_new rfl _ _ rfl, cell_new rfl _ _ rfl, cell_new rfl _ _ rfl, frozen_new _ _ _⟩
  have acc1 : Below w.heap.size w w1 := by rw [hw1]; exact (Below.refl _ _).alloc (Nat.le_refl _) _
  have hz1 : w.heap.size < w1.heap.size := by rw [hw1]; simp
  have HBK := Lib.hid bytes_one
  have HG := Lib.hid hg
  have BX1 := Lib.hid bx1
  have ACC1 := Lib.hid acc1
  have HZ1 := Lib.hid hz1
  have HW1 := Lib.hid hw1
  clear hg bx1 acc1 hz1 hw1
  go_enter Tryd.func8, Tryd.ntmps8
  go_wp2
  rw [← HW1.out]
  clear z9 z40 zw4 z0 zl0 zw0
  go_loopg [8] n (fun gg s8 wr => ∃ (i cr : Nat) (ar : Option Addr), i ≤ n ∧ n - i ≤ gg ∧ s8 = .int .i64 i ∧ Aside (BoxAt wr w.heap.size (.slice ar i cr) (.slice none 0 0) (.slice none 0 0)) ∧ Aside (wr.ownsRow (w.heap.size + 1) 9 1 (.slice ar i cr) i (strs (lets i))) ∧ Aside (Below w.heap.size w wr) ∧ Aside (w.heap.size < wr.heap.size))
  case atStart => exact ⟨0, 0, none, by omega, by omega, rfl, BX1.out, World.ownsRow_nil _ _ _ _, ACC1.out, HZ1.out⟩
  case round =>
    obtain ⟨i, cr, ar, hi, hgg, rfl, HBX, HO, HB, HLT⟩ := hrel
    by_cases hlt : i < n
    · have hltz : (i : Int) < (n : Int) := by omega
      have hy := letter_int (i := i) (by omega)
      obtain ⟨y, hyy⟩ : ∃ y, y = letter i := ⟨_, rfl⟩
      rw [← hyy] at hy
      have hy8 : (y.toNat : Int) < 256 := by have := y.toNat_lt; omega
      have hb1 := HBK.out wr y
      have HY := Lib.hid hyy
      clear hyy
      obtain ⟨b0, b1, b2, _⟩ := HBX.out
      go_wp2_with (at_builtin; refine wpList_append_text _ rfl (.tmp 42) (.tmp 48) rfl (w.heap.size + 1) ar i cr (lets i) rfl ((HO.out.alloc _).alloc _) (wr.heap.size + 1) [y] rfl (by have h := heap_alloc_new (wr.alloc (.cells #[.int .u8 (y.toNat : Int)] 5)) (.cells #[.string ⟨#[y]⟩] 9); rw [show (wr.alloc (.cells #[.int .u8 (y.toNat : Int)] 5)).heap.size = wr.heap.size + 1 by simp] at h; exact h) (by omega) (by have := HLT.out; simp; omega) ?_; intro g6 c6 w6 hown6 hb6; have bb6 := ((HBX.out.alloc (.cells #[.int .u8 (y.toNat : Int)] 5)).alloc (.cells #[.string ⟨#[y]⟩] 9)).below hb6 (Nat.lt_succ_self _); have bb7 := bb6; obtain ⟨d0, d1, d2, df⟩ := bb7; have df0 := df 0; clear df)
      have HB6 := Lib.hid hb6
      have HO6 := Lib.hid hown6
      have BB6 := Lib.hid bb6
      clear b0 b1 b2 d0 d1 d2 df0 hb6 hown6 bb6 hy hy8 hb1
      go_roundg (n - (i + 1))
      case measure => omega
      case rel =>
        have hlt0 := HLT.out
        have hB6 : Below w.heap.size w w6 := HB.out.trans ((((Below.refl w.heap.size wr).alloc (by omega) _).alloc (by simp; omega) _).trans (HB6.out.mono (by omega)))
        have hl6 : w.heap.size < w6.heap.size := by
          have h2 := HB6.out.size
          simp at h2
          omega
        have hset := ((Below.refl w.heap.size w6).setCell (p := ⟨w.heap.size, 0, none⟩) (Nat.le_refl _) (.slice (some ⟨g6, 0, none⟩) (i + 1) c6)).size
        refine ⟨i + 1, c6, some ⟨g6, 0, none⟩, by omega, by omega, by go_num, BB6.out.set0 _, ?_, hB6.setCell (p := ⟨w.heap.size, 0, none⟩) (Nat.le_refl _) _, Nat.lt_of_lt_of_le hl6 hset⟩
        rw [lets_succ, ← HY.out]
        exact ownsRow_setCell_below HO6.out (a := ⟨w.heap.size, 0, none⟩) (Nat.lt_succ_self _) _
    · have hin : n = i := by omega
      subst hin
      obtain ⟨wo, rfl⟩ : ∃ wo : World, wo = wr := ⟨_, rfl⟩
      have hcr := own_cap HO.out
      go_wp2
      go_loopg [9, 10] n (fun gg s9 s10 wr => ∃ (i k cl : Nat) (al : Option Addr) (L : List Link), i ≤ n ∧ n - i ≤ gg ∧ s10 = .int .i64 i ∧ s9 = .int .i64 k ∧ k ≤ 40 ∧ Aside (BoxAt wr w.heap.size (.slice ar n cr) (.slice al k cl) (.slice none 0 0)) ∧ Aside (wr.ownsRow wo.heap.size 37 2 (.slice al k cl) k (lnks L)) ∧ Aside (Off w.heap.size wo wr) ∧ Aside (Below w.heap.size w wr) ∧ Aside (BInv n L i 0 k))
      case atStart => exact ⟨0, 0, 0, none, [], by omega, by omega, rfl, rfl, by omega, HBX.out, World.ownsRow_nil _ _ _ _, Off.refl _ _, HB.out, BInv.nil n⟩
      case round =>
        obtain ⟨i, k, cl, al, L, hi, hgg, rfl, rfl, hk, HBX2, HOL, HOF, HB2, HLI⟩ := hrel
        by_cases hlt : i < n
        · have hltz : (i : Int) < (n : Int) := by omega
          go_wp2
          obtain ⟨wi, rfl⟩ : ∃ wi : World, wi = wr := ⟨_, rfl⟩
          go_loopg [9, 11] n (fun gg s9 s11 wr => ∃ (j k cl : Nat) (al : Option Addr) (L : List Link), j ≤ n ∧ n - j ≤ gg ∧ s11 = .int .i64 j ∧ s9 = .int .i64 k ∧ k ≤ 40 ∧ Aside (BoxAt wr w.heap.size (.slice ar n cr) (.slice al k cl) (.slice none 0 0)) ∧ Aside (wr.ownsRow wo.heap.size 37 2 (.slice al k cl) k (lnks L)) ∧ Aside (Off w.heap.size wo wr) ∧ Aside (Below w.heap.size w wr) ∧ Aside (BInv n L i j k))
          case atStart => exact ⟨0, k, cl, al, L, by omega, by omega, rfl, rfl, hk, HBX2.out, HOL.out, HOF.out, HB2.out, HLI.out⟩
          case round =>
            clear HBX2 HOL HOF HB2 HLI
            obtain ⟨j, k, cl, al, L, hj, hgg2, rfl, rfl, hk, HBX2, HOL, HOF, HB2, HLI⟩ := hrel
            by_cases hjt : j < n
            case neg =>
              have hjn : n = j := by omega
              subst hjn
              go_wp2
              go_roundg (n - (i + 1))
              case measure => omega
              case rel => exact ⟨i + 1, k, cl, al, L, by omega, by omega, by go_num, rfl, hk, HBX2.out, HOL.out, HOF.out, HB2.out, HLI.out.row⟩
            have hjz : (j : Int) < (n : Int) := by omega
            by_cases hij : i = j
            case pos =>
              have hikb : ((i : Int) == (j : Int)) = true := by rw [hij]; simp
              have hikn : ((i : Int) != (j : Int)) = false := by rw [hij]; simp
              clear hij
              go_wp2
              go_roundg (n - (j + 1))
              case measure => omega
              case rel => exact ⟨j + 1, k, cl, al, L, by omega, by omega, by go_num, rfl, hk, HBX2.out, HOL.out, HOF.out, HB2.out, HLI.out.no⟩
            have hikz : ¬ (i : Int) = (j : Int) := by omega
            have hikb : ((i : Int) == (j : Int)) = false := by simpa using hikz
            have hikn : ((i : Int) != (j : Int)) = true := by simpa using hikz
            by_cases hkl : k < links
            case neg =>
              have hklz : ¬ (k : Int) < (links : Int) := by omega
              go_wp2
              go_roundg (n - (j + 1))
              case measure => omega
              case rel => exact ⟨j + 1, k, cl, al, L, by omega, by omega, by go_num, rfl, hk, HBX2.out, HOL.out, HOF.out, HB2.out, HLI.out.no⟩
            have hklz : (k : Int) < (links : Int) := by omega
            have hi0 : (0 : Int) ≤ (i : Int) := by omega
            have hj0 : (0 : Int) ≤ (j : Int) := by omega
            have hpc : ∀ W, Off w.heap.size wo W → ∃ gR, ar = some ⟨gR, 0, none⟩ ∧ w.heap.size < gR ∧ ∀ m, m < n → W.cell? ⟨gR, m, none⟩ = some (.string ⟨[letter m].toArray⟩) := fun W h => by
              have ho := h.own HO.out
              obtain ⟨g, cap, e, hb, hlt2⟩ := World.ownsRow.form ho (by omega)
              obtain ⟨b, off, e2, hlt3, hc⟩ := (At.owns ho).cell (by omega)
              simp only [Value.slice.injEq] at e
              obtain ⟨e1, _⟩ := e
              rw [e1] at e2
              simp only [Option.some.injEq, Addr.mk.injEq] at e2
              obtain ⟨rfl, rfl, _⟩ := e2
              refine ⟨g, e1, by omega, fun m hm => ?_⟩
              have := hc m hm
              rwa [Nat.zero_add, lets_get hm] at this
            obtain ⟨gR, hgR, hgl, _⟩ := hpc wr HOF.out
            subst hgR
            obtain ⟨p, hp⟩ : ∃ p : ByteArray, p = ⟨[letter i].toArray⟩ := ⟨_, rfl⟩
            obtain ⟨q, hq⟩ : ∃ q : ByteArray, q = ⟨[letter j].toArray⟩ := ⟨_, rfl⟩
            have hpd : p.data.toList = [letter i] := by rw [hp]
            have hqd : q.data.toList = [letter j] := by rw [hq]
            have hkq : ∀ W, Off w.heap.size wo W → W.cell? ⟨w.heap.size, 0, none⟩ = some (.slice (some ⟨gR, 0, none⟩) n cr) → W.cell? ⟨w.heap.size, 0, none⟩ = some (.slice (some ⟨gR, 0, none⟩) n cr) ∧ W.cell? ⟨gR, i, none⟩ = some (.string p) ∧ W.cell? ⟨gR, j, none⟩ = some (.string q) := fun W h h0 => by
              obtain ⟨g, e, _, hc⟩ := hpc W h
              simp only [Option.some.injEq, Addr.mk.injEq] at e
              obtain ⟨rfl, _⟩ := e
              rw [hp, hq]
              exact ⟨h0, hc i hlt, hc j hjt⟩
            have hltw : w.heap.size < wr.heap.size := Nat.lt_of_lt_of_le HLT.out HOF.out.size
            have hkp := fun W (h : Below wr.heap.size wr W) => hkq W (HOF.out.below h HOF.out.size) (HBX2.out.below h hltw).1
            have hOFB : ∀ {wb w6 : World}, Below wr.heap.size wr wb → Below wo.heap.size wb w6 → Off w.heap.size wo w6 := fun h1 h2 => (HOF.out.below h1 HOF.out.size).below h2 (Nat.le_refl _)
            have KQ := Lib.hid hkq
            have KP := Lib.hid hkp
            have HLTW := Lib.hid hltw
            have HPD := Lib.hid hpd
            have HQD := Lib.hid hqd
            have HNE := Lib.hid (show gR ≠ w.heap.size by omega)
            have acc2 : Below wr.heap.size wr wr.drew := (Below.refl _ _).drew
            clear hp hq hpd hqd hkq hkp hltw hpc hgl
            go_upto_region 16 with fail
            refine wp_region_held_drew (S := (fun W => W.cell? ⟨w.heap.size, 0, none⟩ = some (.slice (some ⟨gR, 0, none⟩) n cr) ∧ W.cell? ⟨gR, i, none⟩ = some (.string p) ∧ W.cell? ⟨gR, j, none⟩ = some (.string q))) (by kernel_rfl) (KP.out _ acc2) (fun hHeld => ?_)
            refine wpAnyH_take (i := 0) (oi := { dst := some 69, op := Op.fieldAddr 26 (Operand.tmp 7) 1, type := 0, pos := "more.go:54", after := #[], guard := none }) (v := ?v1) rfl (by kernel_rfl) (by kernel_rfl) (by kernel_rfl) (fun _ _ _ h => h) (Or.inl ⟨by rfl, ?hy1⟩) (by assumption) ?_
            case hy1 => (intro w hSw; (try dsimp only at hSw); go_simp; try with_reducible rfl)
            try simp only [Act.put, List.setIfInBounds_toArray, List.set_cons_zero, List.set_cons_succ]
            refine wpAnyH_take (i := 2) (oi := { dst := some 71, op := Op.fieldAddr 26 (Operand.tmp 7) 0, type := 0, pos := "more.go:54", after := #[], guard := none }) (v := ?v2) rfl (by kernel_rfl) (by kernel_rfl) (by kernel_rfl) (fun _ _ _ h => h) (Or.inl ⟨by rfl, ?hy2⟩) (by assumption) ?_
            case hy2 => (intro w hSw; (try dsimp only at hSw); go_simp; try with_reducible rfl)
            try simp only [Act.put, List.setIfInBounds_toArray, List.set_cons_zero, List.set_cons_succ]
            refine wpAnyH_take (i := 3) (oi := { dst := some 72, op := Op.load 22 (Operand.tmp 71), type := 22, pos := "more.go:54", after := #[{ on := 2, ground := Ground.data }], guard := none }) (v := ?v3) rfl (by kernel_rfl) (by kernel_rfl) (by kernel_rfl) (fun _ _ _ h => h) (Or.inl ⟨by rfl, ?hy3⟩) (by assumption) ?_
            case hy3 => (intro w hSw; (try dsimp only at hSw); go_simp; try with_reducible rfl)
            try simp only [Act.put, List.setIfInBounds_toArray, List.set_cons_zero, List.set_cons_succ]
            refine wpAnyH_take (i := 4) (oi := { dst := some 73, op := Op.move (Operand.tmp 10), type := 3, pos := "more.go:54", after := #[], guard := none }) (v := ?v4) rfl (by kernel_rfl) (by kernel_rfl) (by kernel_rfl) (fun _ _ _ h => h) (Or.inl ⟨by rfl, ?hy4⟩) (by assumption) ?_
            case hy4 => (intro w hSw; (try dsimp only at hSw); go_simp; try with_reducible rfl)
            try simp only [Act.put, List.setIfInBounds_toArray, List.set_cons_zero, List.set_cons_succ]
            refine wpAnyH_take (i := 5) (oi := { dst := some 74, op := Op.indexAddr 22 (Operand.tmp 72) (Operand.tmp 73), type := 0, pos := "more.go:54", after := #[{ on := 3, ground := Ground.data }, { on := 4, ground := Ground.data }], guard := none }) (v := ?v5) rfl (by kernel_rfl) (by kernel_rfl) (by kernel_rfl) (fun _ _ _ h => h) (Or.inl ⟨by rfl, ?hy5⟩) (by assumption) ?_
            case hy5 => (intro w hSw; (try dsimp only at hSw); go_simp; try with_reducible rfl)
            try simp only [Act.put, List.setIfInBounds_toArray, List.set_cons_zero, List.set_cons_succ]
            refine wpAnyH_take (i := 6) (oi := { dst := some 75, op := Op.load 9 (Operand.tmp 74), type := 9, pos := "more.go:54", after := #[{ on := 5, ground := Ground.data }], guard := none }) (v := ?v6) rfl (by kernel_rfl) (by kernel_rfl) (by kernel_rfl) (fun _ _ _ h => h) (Or.inl ⟨by rfl, ?hy6⟩) (by assumption) ?_
            case hy6 => (intro w hSw; (try dsimp only at hSw); go_simp; try with_reducible rfl)
            try simp only [Act.put, List.setIfInBounds_toArray, List.set_cons_zero, List.set_cons_succ]
            refine wpAnyH_take (i := 7) (oi := { dst := some 76, op := Op.fieldAddr 26 (Operand.tmp 7) 0, type := 0, pos := "more.go:54", after := #[], guard := none }) (v := ?v7) rfl (by kernel_rfl) (by kernel_rfl) (by kernel_rfl) (fun _ _ _ h => h) (Or.inl ⟨by rfl, ?hy7⟩) (by assumption) ?_
            case hy7 => (intro w hSw; (try dsimp only at hSw); go_simp; try with_reducible rfl)
            try simp only [Act.put, List.setIfInBounds_toArray, List.set_cons_zero, List.set_cons_succ]
            refine wpAnyH_take (i := 8) (oi := { dst := some 77, op := Op.load 22 (Operand.tmp 76), type := 22, pos := "more.go:54", after := #[{ on := 7, ground := Ground.data }], guard := none }) (v := ?v8) rfl (by kernel_rfl) (by kernel_rfl) (by kernel_rfl) (fun _ _ _ h => h) (Or.inl ⟨by rfl, ?hy8⟩) (by assumption) ?_
            case hy8 => (intro w hSw; (try dsimp only at hSw); go_simp; try with_reducible rfl)
            try simp only [Act.put, List.setIfInBounds_toArray, List.set_cons_zero, List.set_cons_succ]
            refine wpAnyH_take (i := 9) (oi := { dst := some 78, op := Op.move (Operand.tmp 11), type := 3, pos := "more.go:54", after := #[], guard := none }) (v := ?v9) rfl (by kernel_rfl) (by kernel_rfl) (by kernel_rfl) (fun _ _ _ h => h) (Or.inl ⟨by rfl, ?hy9⟩) (by assumption) ?_
            case hy9 => (intro w hSw; (try dsimp only at hSw); go_simp; try with_reducible rfl)
            try simp only [Act.put, List.setIfInBounds_toArray, List.set_cons_zero, List.set_cons_succ]
            refine wpAnyH_take (i := 10) (oi := { dst := some 79, op := Op.indexAddr 22 (Operand.tmp 77) (Operand.tmp 78), type := 0, pos := "more.go:54", after := #[{ on := 8, ground := Ground.data }, { on := 9, ground := Ground.data }], guard := none }) (v := ?v10) rfl (by kernel_rfl) (by kernel_rfl) (by kernel_rfl) (fun _ _ _ h => h) (Or.inl ⟨by rfl, ?hy10⟩) (by assumption) ?_
            case hy10 => (intro w hSw; (try dsimp only at hSw); go_simp; try with_reducible rfl)
            try simp only [Act.put, List.setIfInBounds_toArray, List.set_cons_zero, List.set_cons_succ]
            refine wpAnyH_take (i := 11) (oi := { dst := some 80, op := Op.load 9 (Operand.tmp 79), type := 9, pos := "more.go:54", after := #[{ on := 10, ground := Ground.data }], guard := none }) (v := ?v11) rfl (by kernel_rfl) (by kernel_rfl) (by kernel_rfl) (fun _ _ _ h => h) (Or.inl ⟨by rfl, ?hy11⟩) (by assumption) ?_
            case hy11 => (intro w hSw; (try dsimp only at hSw); go_simp; try with_reducible rfl)
            try simp only [Act.put, List.setIfInBounds_toArray, List.set_cons_zero, List.set_cons_succ]
            refine wpAnyH_take (i := 12) (oi := { dst := some 81, op := Op.build 37 #[(0, Operand.tmp 75), (1, Operand.tmp 80)], type := 37, pos := "more.go:54", after := #[{ on := 6, ground := Ground.data }, { on := 11, ground := Ground.data }], guard := none }) (v := ?v12) rfl (by kernel_rfl) (by kernel_rfl) (by kernel_rfl) (fun _ _ _ h => h) (Or.inl ⟨by rfl, ?hy12⟩) (by assumption) ?_
            case hy12 => (intro w hSw; (try dsimp only at hSw); go_simp; try with_reducible rfl)
            try simp only [Act.put, List.setIfInBounds_toArray, List.set_cons_zero, List.set_cons_succ]
            refine wpAnyH_ready (rs := [1, 13]) (by kernel_rfl) (by simp) ?_
            refine AllReadyH.cons (o := { dst := some 70, op := Op.load 23 (Operand.tmp 69), type := 23, pos := "more.go:54", after := #[{ on := 0, ground := Ground.data }], guard := none }) rfl ?_ (AllReadyH.cons (o := { dst := some 82, op := Op.buildSlice 23 1 #[(0, Operand.tmp 81)], type := 23, pos := "more.go:54", after := #[{ on := 12, ground := Ground.data }], guard := none }) rfl ?_ (AllReadyH.nil))
            · intro K hK
              rw [if_pos (by rfl)]
              have b1 := (HBX2.out.below acc2 HLTW.out).2.1
              go_simp
              clear b1
              refine hK.out _ _ (KP.out _ acc2) (fun hHeld => ?_)
              clear hK K
              try simp only [Act.put, List.setIfInBounds_toArray, List.set_cons_zero, List.set_cons_succ]
              refine wpAnyH_ready (rs := [13]) (by kernel_rfl) (by simp) ?_
              refine AllReadyH.cons (o := { dst := some 82, op := Op.buildSlice 23 1 #[(0, Operand.tmp 81)], type := 23, pos := "more.go:54", after := #[{ on := 12, ground := Ground.data }], guard := none }) rfl (fun K hK => ?_) AllReadyH.nil
              rw [if_pos (by rfl)]
              go_simp
              obtain ⟨wb, hwb⟩ : ∃ W, W = (wr.alloc (.cells #[.string p, .string q] 37)).drew := ⟨_, rfl⟩
              rw [← hwb]
              have hk12 : wb.heap[wr.heap.size]? = some (.cells #[.string p, .string q] 37 (0, 0)) := by rw [hwb]; exact heap_alloc_new wr _
              clear acc2
              have acc2 : Below wr.heap.size wr wb := by rw [hwb]; exact ((Below.refl _ wr).alloc (Nat.le_refl _) _).drew
              clear hwb
              refine hK.out _ _ (KP.out _ acc2) (fun hHeld => ?_)
              clear hK K
              try simp only [Act.put, List.setIfInBounds_toArray, List.set_cons_zero, List.set_cons_succ]
              refine wpAnyH_ready (rs := [14]) (by kernel_rfl) (by simp) ?_
              refine AllReadyH.cons (o := { dst := some 83, op := Op.call { callee := Callee.builtin Builtin.append, args := #[Operand.tmp 70, Operand.tmp 82], argTypes := #[23, 23] }, type := 23, pos := "more.go:54", after := #[{ on := 1, ground := Ground.data }, { on := 13, ground := Ground.data }], guard := none }) rfl (fun K hK => ?_) AllReadyH.nil
              rw [if_pos (by rfl)]
              refine wpOp_append_link2 _ (.tmp 70) (.tmp 82) rfl wo.heap.size al k cl L rfl (ownL_below HOL.out acc2) wr.heap.size p.data.toList q.data.toList rfl hk12 (by omega) (by have := acc2.size; have := HOF.out.size; omega) ?_
              intro g6 c6 w6 hown6 hb6
              have hkq := KQ.out w6 (hOFB acc2 hb6) (((HBX2.out.below acc2 HLTW.out).below hb6 HLT.out).1)
              refine hK.out _ _ (hkq) (fun hHeld => ?_)
              clear hK K
              try simp only [Act.put, List.setIfInBounds_toArray, List.set_cons_zero, List.set_cons_succ]
              refine wpAnyH_take (i := 15) (oi := { dst := some 84, op := Op.fieldAddr 26 (Operand.tmp 7) 1, type := 0, pos := "more.go:54", after := #[{ on := 0, ground := Ground.phase }, { on := 1, ground := Ground.phase }, { on := 2, ground := Ground.phase }, { on := 3, ground := Ground.phase }, { on := 4, ground := Ground.phase }, { on := 5, ground := Ground.phase }, { on := 6, ground := Ground.phase }, { on := 7, ground := Ground.phase }, { on := 8, ground := Ground.phase }, { on := 9, ground := Ground.phase }, { on := 10, ground := Ground.phase }, { on := 11, ground := Ground.phase }, { on := 12, ground := Ground.phase }, { on := 13, ground := Ground.phase }, { on := 14, ground := Ground.phase }], guard := none }) (v := ?v13) rfl (by kernel_rfl) (by kernel_rfl) (by kernel_rfl) (fun _ _ _ h => h) (Or.inl ⟨by rfl, ?hy13⟩) (by assumption) ?_
              case hy13 => (intro w hSw; (try dsimp only at hSw); go_simp; try with_reducible rfl)
              try simp only [Act.put, List.setIfInBounds_toArray, List.set_cons_zero, List.set_cons_succ]
              refine wpAnyH_ready (rs := [16]) (by kernel_rfl) (by simp) ?_
              refine AllReadyH.cons (o := { dst := none, op := Op.store 23 (Operand.tmp 84) (Operand.tmp 83), type := 0, pos := "more.go:54", after := #[{ on := 15, ground := Ground.data }, { on := 14, ground := Ground.data }, { on := 14, ground := Ground.chain }, { on := 0, ground := Ground.phase }, { on := 1, ground := Ground.phase }, { on := 2, ground := Ground.phase }, { on := 3, ground := Ground.phase }, { on := 4, ground := Ground.phase }, { on := 5, ground := Ground.phase }, { on := 6, ground := Ground.phase }, { on := 7, ground := Ground.phase }, { on := 8, ground := Ground.phase }, { on := 9, ground := Ground.phase }, { on := 10, ground := Ground.phase }, { on := 11, ground := Ground.phase }, { on := 12, ground := Ground.phase }, { on := 13, ground := Ground.phase }, { on := 14, ground := Ground.phase }], guard := none }) rfl (fun K hK => ?_) AllReadyH.nil
              rw [if_pos (by rfl)]
              have bb6 := (HBX2.out.below acc2 HLTW.out).below hb6 HLT.out
              have d1 := bb6.2.1
              have df1 := bb6.2.2.2 1
              go_simp
              clear d1 df1
              refine hK.out _ _ ((by obtain ⟨x2, x0, x1⟩ := hkq; exact ⟨(bb6.set1 _).1, keep_other2 HNE.out x0, keep_other2 HNE.out x1⟩)) (fun hHeld => ?_)
              clear hK K
              try simp only [Act.put, List.setIfInBounds_toArray, List.set_cons_zero, List.set_cons_succ]
              refine wpAnyH_done (by kernel_rfl) ?_ _
              have HB6 := Lib.hid hb6
              have HO6 := Lib.hid hown6
              have BB6 := Lib.hid bb6
              have ACW := Lib.hid acc2
              clear hb6 hown6 bb6 acc2 hkq hk12 hOFB
              go_wp2
              go_roundg (n - (j + 1))
              case measure => omega
              case rel =>
                have hof := (HOF.out.below ACW.out HOF.out.size).below HB6.out (Nat.le_refl _)
                have hlw := HLTW.out
                have hbl := (HB2.out.trans (ACW.out.mono (by omega))).trans (HB6.out.mono (Nat.le_of_lt HLT.out))
                refine ⟨j + 1, k + 1, c6, some ⟨g6, 0, none⟩, L ++ [(p.data.toList, q.data.toList)], by omega, by omega, by go_num, by go_num, by omega, BB6.out.set1 _, ownsRow_setCell_below HO6.out (a := ⟨w.heap.size, 1, none⟩) HLT.out _, hof.set 1 _, hbl.setCell (p := ⟨w.heap.size, 1, none⟩) (Nat.le_refl _) _, ?_⟩
                rw [HPD.out, HQD.out]
                exact HLI.out.yes (by omega) (by omega) hij (by omega)
            · intro K hK
              rw [if_pos (by rfl)]
              go_simp
              obtain ⟨wb, hwb⟩ : ∃ W, W = (wr.alloc (.cells #[.string p, .string q] 37)).drew := ⟨_, rfl⟩
              rw [← hwb]
              have hk12 : wb.heap[wr.heap.size]? = some (.cells #[.string p, .string q] 37 (0, 0)) := by rw [hwb]; exact heap_alloc_new wr _
              clear acc2
              have acc2 : Below wr.heap.size wr wb := by rw [hwb]; exact ((Below.refl _ wr).alloc (Nat.le_refl _) _).drew
              clear hwb
              refine hK.out _ _ (KP.out _ acc2) (fun hHeld => ?_)
              clear hK K
              try simp only [Act.put, List.setIfInBounds_toArray, List.set_cons_zero, List.set_cons_succ]
              refine wpAnyH_ready (rs := [1]) (by kernel_rfl) (by simp) ?_
              refine AllReadyH.cons (o := { dst := some 70, op := Op.load 23 (Operand.tmp 69), type := 23, pos := "more.go:54", after := #[{ on := 0, ground := Ground.data }], guard := none }) rfl (fun K hK => ?_) AllReadyH.nil
              rw [if_pos (by rfl)]
              have b1 := (HBX2.out.below acc2 HLTW.out).2.1
              go_simp
              clear b1
              refine hK.out _ _ (KP.out _ acc2) (fun hHeld => ?_)
              clear hK K
              try simp only [Act.put, List.setIfInBounds_toArray, List.set_cons_zero, List.set_cons_succ]
              refine wpAnyH_ready (rs := [14]) (by kernel_rfl) (by simp) ?_
              refine AllReadyH.cons (o := { dst := some 83, op := Op.call { callee := Callee.builtin Builtin.append, args := #[Operand.tmp 70, Operand.tmp 82], argTypes := #[23, 23] }, type := 23, pos := "more.go:54", after := #[{ on := 1, ground := Ground.data }, { on := 13, ground := Ground.data }], guard := none }) rfl (fun K hK => ?_) AllReadyH.nil
              rw [if_pos (by rfl)]
              refine wpOp_append_link2 _ (.tmp 70) (.tmp 82) rfl wo.heap.size al k cl L rfl (ownL_below HOL.out acc2) wr.heap.size p.data.toList q.data.toList rfl hk12 (by omega) (by have := acc2.size; have := HOF.out.size; omega) ?_
              intro g6 c6 w6 hown6 hb6
              have hkq := KQ.out w6 (hOFB acc2 hb6) (((HBX2.out.below acc2 HLTW.out).below hb6 HLT.out).1)
              refine hK.out _ _ (hkq) (fun hHeld => ?_)
              clear hK K
              try simp only [Act.put, List.setIfInBounds_toArray, List.set_cons_zero, List.set_cons_succ]
              refine wpAnyH_take (i := 15) (oi := { dst := some 84, op := Op.fieldAddr 26 (Operand.tmp 7) 1, type := 0, pos := "more.go:54", after := #[{ on := 0, ground := Ground.phase }, { on := 1, ground := Ground.phase }, { on := 2, ground := Ground.phase }, { on := 3, ground := Ground.phase }, { on := 4, ground := Ground.phase }, { on := 5, ground := Ground.phase }, { on := 6, ground := Ground.phase }, { on := 7, ground := Ground.phase }, { on := 8, ground := Ground.phase }, { on := 9, ground := Ground.phase }, { on := 10, ground := Ground.phase }, { on := 11, ground := Ground.phase }, { on := 12, ground := Ground.phase }, { on := 13, ground := Ground.phase }, { on := 14, ground := Ground.phase }], guard := none }) (v := ?v14) rfl (by kernel_rfl) (by kernel_rfl) (by kernel_rfl) (fun _ _ _ h => h) (Or.inl ⟨by rfl, ?hy14⟩) (by assumption) ?_
              case hy14 => (intro w hSw; (try dsimp only at hSw); go_simp; try with_reducible rfl)
              try simp only [Act.put, List.setIfInBounds_toArray, List.set_cons_zero, List.set_cons_succ]
              refine wpAnyH_ready (rs := [16]) (by kernel_rfl) (by simp) ?_
              refine AllReadyH.cons (o := { dst := none, op := Op.store 23 (Operand.tmp 84) (Operand.tmp 83), type := 0, pos := "more.go:54", after := #[{ on := 15, ground := Ground.data }, { on := 14, ground := Ground.data }, { on := 14, ground := Ground.chain }, { on := 0, ground := Ground.phase }, { on := 1, ground := Ground.phase }, { on := 2, ground := Ground.phase }, { on := 3, ground := Ground.phase }, { on := 4, ground := Ground.phase }, { on := 5, ground := Ground.phase }, { on := 6, ground := Ground.phase }, { on := 7, ground := Ground.phase }, { on := 8, ground := Ground.phase }, { on := 9, ground := Ground.phase }, { on := 10, ground := Ground.phase }, { on := 11, ground := Ground.phase }, { on := 12, ground := Ground.phase }, { on := 13, ground := Ground.phase }, { on := 14, ground := Ground.phase }], guard := none }) rfl (fun K hK => ?_) AllReadyH.nil
              rw [if_pos (by rfl)]
              have bb6 := (HBX2.out.below acc2 HLTW.out).below hb6 HLT.out
              have d1 := bb6.2.1
              have df1 := bb6.2.2.2 1
              go_simp
              clear d1 df1
              refine hK.out _ _ ((by obtain ⟨x2, x0, x1⟩ := hkq; exact ⟨(bb6.set1 _).1, keep_other2 HNE.out x0, keep_other2 HNE.out x1⟩)) (fun hHeld => ?_)
              clear hK K
              try simp only [Act.put, List.setIfInBounds_toArray, List.set_cons_zero, List.set_cons_succ]
              refine wpAnyH_done (by kernel_rfl) ?_ _
              have HB6 := Lib.hid hb6
              have HO6 := Lib.hid hown6
              have BB6 := Lib.hid bb6
              have ACW := Lib.hid acc2
              clear hb6 hown6 bb6 acc2 hkq hk12 hOFB
              go_wp2
              go_roundg (n - (j + 1))
              case measure => omega
              case rel =>
                have hof := (HOF.out.below ACW.out HOF.out.size).below HB6.out (Nat.le_refl _)
                have hlw := HLTW.out
                have hbl := (HB2.out.trans (ACW.out.mono (by omega))).trans (HB6.out.mono (Nat.le_of_lt HLT.out))
                refine ⟨j + 1, k + 1, c6, some ⟨g6, 0, none⟩, L ++ [(p.data.toList, q.data.toList)], by omega, by omega, by go_num, by go_num, by omega, BB6.out.set1 _, ownsRow_setCell_below HO6.out (a := ⟨w.heap.size, 1, none⟩) HLT.out _, hof.set 1 _, hbl.setCell (p := ⟨w.heap.size, 1, none⟩) (Nat.le_refl _) _, ?_⟩
                rw [HPD.out, HQD.out]
                exact HLI.out.yes (by omega) (by omega) hij (by omega)
        · have hin : n = i := by omega
          subst hin
          obtain ⟨wt, rfl⟩ : ∃ wt : World, wt = wr := ⟨_, rfl⟩
          have hltw : w.heap.size < wt.heap.size := Nat.lt_of_lt_of_le HLT.out HOF.out.size
          have hLl := HLI.out.len
          have hbr : ∀ r ∈ lets n, r.length < 90000 := fun r hr => by
            have := isR_short (lets_isR n (by omega) r hr)
            omega
          have HBR := Lib.hid hbr
          clear hbr
          go_upto_region 18 with fail
          go_cut [12] from 87 (fun v12 wx => v12 = .bool (decide ((1 ≤ n ∧ n ≤ 6) ∧ k ≤ 20)) ∧ wx = wt)
          case first =>
            by_cases a1 : 1 ≤ n
            case neg =>
              have a1z : ¬ (1 : Int) ≤ (n : Int) := by omega
              go_wp2
              go_meet
              case rel => exact ⟨by rw [decide_eq_false (fun h : (1 ≤ n ∧ n ≤ 6) ∧ k ≤ 20 => a1 h.1.1)], rfl⟩
            have a1z : (1 : Int) ≤ (n : Int) := by omega
            by_cases a2 : n ≤ 6
            case neg =>
              have a2z : ¬ (n : Int) ≤ 6 := by omega
              go_wp2
              go_meet
              case rel => exact ⟨by rw [decide_eq_false (fun h : (1 ≤ n ∧ n ≤ 6) ∧ k ≤ 20 => a2 h.1.2)], rfl⟩
            have a2z : (n : Int) ≤ 6 := by omega
            by_cases a3 : k ≤ 20
            case neg =>
              have a3z : ¬ (k : Int) ≤ 20 := by omega
              go_wp2
              go_meet
              case rel => exact ⟨by rw [decide_eq_false (fun h : (1 ≤ n ∧ n ≤ 6) ∧ k ≤ 20 => a3 h.2)], rfl⟩
            have a3z : (k : Int) ≤ 20 := by omega
            go_wp2
            go_meet
            case rel => exact ⟨by rw [decide_eq_true (show (1 ≤ n ∧ n ≤ 6) ∧ k ≤ 20 from ⟨⟨a1, a2⟩, a3⟩)], rfl⟩
          case rest =>
            obtain ⟨rfl, hwc⟩ := hcut
            replace hwc := hwc.symm
            subst hwc
            have hd0 := fin0 HLI.out h9
            obtain ⟨K, hK⟩ : ∃ K, K = decide ((1 ≤ n ∧ n ≤ 6) ∧ k ≤ 20) := ⟨_, rfl⟩
            rw [← hK] at hd0 ⊢
            clear hK
            have hT0 : Tt wt ⟨ar, n, cr, al, k, cl, none, 0, 0⟩ ⟨lets n, L, []⟩ := ⟨At.owns (HOF.out.own HO.out), LinksAt.owns HOL.out, WaysAt.nil _ _, hcr, ownL_cap HOL.out, Nat.le_refl _⟩
            by_cases hn2 : 2 ≤ n
            case neg =>
              have hn2z : ¬ (2 : Int) ≤ (n : Int) := by omega
              obtain ⟨b0, b1, b2, _⟩ := HBX2.out
              have hIS := is7_any wt ⟨ar, n, cr, al, k, cl, none, 0, 0⟩ ⟨lets n, L, []⟩ hT0 (HG.out.below HB2.out) HBR.out (by dsimp only; omega) (by dsimp only; omega) (by dsimp only; omega)
              try dsimp only at hIS
              rw [hd0] at hIS
              have HBL := Lib.hid HB2.out
              clear hd0 hT0 hLl hltw
              go_wp2_with (first
                | (go_at_call 12; refine hIS.mono ?_; rintro e w8 ⟨rfl, hb8⟩; have acc := HBL.out.trans (hb8.mono HBL.out.size); clear hb8)
                | (go_at_call 14; refine (known_any _ (HG.out.below acc)).mono ?_; rintro e w9 ⟨rfl, hb9⟩; replace acc := acc.trans (hb9.mono acc.size); clear hb9))
              go_ret
              exact ⟨rfl, acc⟩
            have hn2z : (2 : Int) ≤ (n : Int) := by omega
            rcases (show way = 0 ∨ way = 1 ∨ way = 2 ∨ way = 3 ∨ way = 4 by omega) with rfl | rfl | rfl | rfl | rfl
            · obtain ⟨b0, b1, b2, _⟩ := HBX2.out
              have hIS := is7_any wt ⟨ar, n, cr, al, k, cl, none, 0, 0⟩ ⟨lets n, L, []⟩ hT0 (HG.out.below HB2.out) HBR.out (by dsimp only; omega) (by dsimp only; omega) (by dsimp only; omega)
              try dsimp only at hIS
              rw [hd0] at hIS
              have HBL := Lib.hid HB2.out
              clear hd0 hT0 hLl hltw
              go_wp2_with (first
                | (go_at_call 12; refine hIS.mono ?_; rintro e w8 ⟨rfl, hb8⟩; have acc := HBL.out.trans (hb8.mono HBL.out.size); clear hb8)
                | (go_at_call 14; refine (known_any _ (HG.out.below acc)).mono ?_; rintro e w9 ⟨rfl, hb9⟩; replace acc := acc.trans (hb9.mono acc.size); clear hb9))
              go_ret
              exact ⟨rfl, acc⟩
            · skip
              obtain ⟨b0, b1, b2, _⟩ := HBX2.out
              rcases HO.out.2 with ⟨e, h0⟩ | ⟨gR, cap, cur, e, hlo, hh, _⟩
              · omega
              simp only [Value.slice.injEq] at e
              obtain ⟨rfl, hnn, hcc⟩ := e
              clear hnn hcc
              have hgo : gR < wo.heap.size := (Array.getElem?_eq_some_iff.1 hh).1
              have hne : gR ≠ w.heap.size := by omega
              have hh2 := (HOF.out.block gR hgo hne).trans hh
              have hgt := Nat.lt_of_lt_of_le hgo HOF.out.size
              have fz1 : wt.frozen? ⟨gR, 1, none⟩ = false := by simp only [World.frozen?, hh2]; simp
              have hcell : ∀ m, m < n → wt.cell? ⟨gR, m, none⟩ = some (.string ⟨[letter m].toArray⟩) := fun m hm => by
                obtain ⟨b, off, e2, _, hc⟩ := (At.owns (HOF.out.own HO.out)).cell (by omega)
                simp only [Option.some.injEq, Addr.mk.injEq] at e2
                obtain ⟨rfl, rfl, _⟩ := e2
                have := hc m hm
                rwa [Nat.zero_add, lets_get hm] at this
              obtain ⟨p0, hp0⟩ : ∃ x : ByteArray, x = ⟨[letter 0].toArray⟩ := ⟨_, rfl⟩
              obtain ⟨p1, hp1⟩ : ∃ x : ByteArray, x = ⟨[letter 1].toArray⟩ := ⟨_, rfl⟩
              have c0 := hcell 0 (by omega)
              have c1 := hcell 1 (by omega)
              rw [← hp0] at c0
              rw [← hp1] at c1
              have hsz : wt.heap.size ≤ (wt.setCell ⟨gR, 1, none⟩ (.string p0)).heap.size := ((Below.refl 0 wt).setCell (p := ⟨gR, 1, none⟩) (Nat.zero_le _) (.string p0)).size
              have hsS : w.heap.size < (wt.setCell ⟨gR, 1, none⟩ (.string p0)).heap.size := by omega
              have hblS := HB2.out.setCell (p := ⟨gR, 1, none⟩) (by show w.heap.size ≤ gR; omega) (.string p0)
              have bxS : BoxAt (wt.setCell ⟨gR, 1, none⟩ (.string p0)) w.heap.size (.slice (some ⟨gR, 0, none⟩) n cr) (.slice al k cl) (.slice none 0 0) := ⟨keep_other2 hne.symm b0, keep_other2 hne.symm b1, keep_other2 hne.symm b2, fun m => (World.frozen?_setCell _ _ _ _).trans (HBX2.out.2.2.2 m)⟩
              have hR1 : At (wt.setCell ⟨gR, 1, none⟩ (.string p0)) (some ⟨gR, 0, none⟩) n ((lets n).set 1 [letter 0]) := by
                refine ⟨by rw [List.length_set, lets_len], fun _ => ⟨gR, 0, rfl, by omega, fun j hj => ?_⟩⟩
                rw [Nat.zero_add, getElem!_pos _ j (by rw [List.length_set, lets_len]; exact hj)]
                by_cases hj1 : j = 1
                · subst hj1
                  rw [List.getElem_set_self, ← hp0]
                  exact World.cell?_setCell_same _ _ _ c1
                · rw [List.getElem_set_ne (fun e => hj1 e.symm), ← getElem!_pos (lets n) j (by rw [lets_len]; exact hj), lets_get hj]
                  exact (World.cell?_setCell_other _ _ _ _ (by first | (simp; done) | (simp; omega))).trans (hcell j hj)
              have hT1 : Tt (wt.setCell ⟨gR, 1, none⟩ (.string p0)) ⟨some ⟨gR, 0, none⟩, n, cr, al, k, cl, none, 0, 0⟩ ⟨(lets n).set 1 [letter 0], L, []⟩ := ⟨hR1, LinksAt.owns (ownsRow_setCell_below HOL.out (a := ⟨gR, 1, none⟩) hgo _), WaysAt.nil _ _, hcr, ownL_cap HOL.out, Nat.le_refl _⟩
              have hd5 : decide (topoOk ⟨(lets n).set 1 [letter 0], L, []⟩) = false := fin1 (by rw [List.length_set, lets_len]; exact hn2) (by
                rw [getElem!_pos _ 1 (by rw [List.length_set, lets_len]; omega), getElem!_pos _ 0 (by rw [List.length_set, lets_len]; omega), List.getElem_set_self, List.getElem_set_ne (by omega), ← getElem!_pos (lets n) 0 (by rw [lets_len]; omega), lets_get (by omega)])
              have hbr5 : ∀ r ∈ (lets n).set 1 [letter 0], r.length < 90000 := fun r hr => by
                rcases List.mem_or_eq_of_mem_set hr with h | h
                · exact HBR.out r h
                · rw [h]; simp
              have HBR5 := Lib.hid hbr5
              have hn00 : 0 < n := by omega
              have hn11 : 1 < n := by omega
              have hn0z : (0 : Int) < (n : Int) := by omega
              have hn1z : (1 : Int) < (n : Int) := by omega
              clear hbr5 hcell hp0 hp1 hh hh2 hR1 hlo
              go_upto_region 22 with fail
              refine wp_region_held_drew (S := (fun W => W.cell? ⟨w.heap.size, 0, none⟩ = some (.slice (some ⟨gR, 0, none⟩) n cr) ∧ W.cell? ⟨gR, 0, none⟩ = some (.string p0))) (by kernel_rfl) (⟨b0, c0⟩) (fun hHeld => ?_)
              refine wpAnyH_take (i := 0) (oi := { dst := some 102, op := Op.fieldAddr 26 (Operand.tmp 7) 0, type := 0, pos := "more.go:63", after := #[], guard := none }) (v := ?v15) rfl (by kernel_rfl) (by kernel_rfl) (by kernel_rfl) (fun _ _ _ h => h) (Or.inl ⟨by rfl, ?hy15⟩) (by assumption) ?_
              case hy15 => (intro w hSw; (try dsimp only at hSw); go_simp; try with_reducible rfl)
              try simp only [Act.put, List.setIfInBounds_toArray, List.set_cons_zero, List.set_cons_succ]
              refine wpAnyH_take (i := 1) (oi := { dst := some 103, op := Op.load 22 (Operand.tmp 102), type := 22, pos := "more.go:63", after := #[{ on := 0, ground := Ground.data }], guard := none }) (v := ?v16) rfl (by kernel_rfl) (by kernel_rfl) (by kernel_rfl) (fun _ _ _ h => h) (Or.inl ⟨by rfl, ?hy16⟩) (by assumption) ?_
              case hy16 => (intro w hSw; (try dsimp only at hSw); go_simp; try with_reducible rfl)
              try simp only [Act.put, List.setIfInBounds_toArray, List.set_cons_zero, List.set_cons_succ]
              refine wpAnyH_take (i := 2) (oi := { dst := some 104, op := Op.fieldAddr 26 (Operand.tmp 7) 0, type := 0, pos := "more.go:63", after := #[], guard := none }) (v := ?v17) rfl (by kernel_rfl) (by kernel_rfl) (by kernel_rfl) (fun _ _ _ h => h) (Or.inl ⟨by rfl, ?hy17⟩) (by assumption) ?_
              case hy17 => (intro w hSw; (try dsimp only at hSw); go_simp; try with_reducible rfl)
              try simp only [Act.put, List.setIfInBounds_toArray, List.set_cons_zero, List.set_cons_succ]
              refine wpAnyH_take (i := 3) (oi := { dst := some 105, op := Op.load 22 (Operand.tmp 104), type := 22, pos := "more.go:63", after := #[{ on := 2, ground := Ground.data }], guard := none }) (v := ?v18) rfl (by kernel_rfl) (by kernel_rfl) (by kernel_rfl) (fun _ _ _ h => h) (Or.inl ⟨by rfl, ?hy18⟩) (by assumption) ?_
              case hy18 => (intro w hSw; (try dsimp only at hSw); go_simp; try with_reducible rfl)
              try simp only [Act.put, List.setIfInBounds_toArray, List.set_cons_zero, List.set_cons_succ]
              refine wpAnyH_take (i := 4) (oi := { dst := some 106, op := Op.indexAddr 22 (Operand.tmp 105) (Operand.const (Value.int IntKind.i64 0)), type := 0, pos := "more.go:63", after := #[{ on := 3, ground := Ground.data }], guard := none }) (v := ?v19) rfl (by kernel_rfl) (by kernel_rfl) (by kernel_rfl) (fun _ _ _ h => h) (Or.inl ⟨by rfl, ?hy19⟩) (by assumption) ?_
              case hy19 => (intro w hSw; (try dsimp only at hSw); go_simp; try with_reducible rfl)
              try simp only [Act.put, List.setIfInBounds_toArray, List.set_cons_zero, List.set_cons_succ]
              refine wpAnyH_take (i := 5) (oi := { dst := some 107, op := Op.load 9 (Operand.tmp 106), type := 9, pos := "more.go:63", after := #[{ on := 4, ground := Ground.data }], guard := none }) (v := ?v20) rfl (by kernel_rfl) (by kernel_rfl) (by kernel_rfl) (fun _ _ _ h => h) (Or.inl ⟨by rfl, ?hy20⟩) (by assumption) ?_
              case hy20 => (intro w hSw; (try dsimp only at hSw); go_simp; try with_reducible rfl)
              try simp only [Act.put, List.setIfInBounds_toArray, List.set_cons_zero, List.set_cons_succ]
              refine wpAnyH_take (i := 6) (oi := { dst := some 108, op := Op.indexAddr 22 (Operand.tmp 103) (Operand.const (Value.int IntKind.i64 1)), type := 0, pos := "more.go:63", after := #[{ on := 1, ground := Ground.data }, { on := 0, ground := Ground.phase }, { on := 1, ground := Ground.phase }, { on := 2, ground := Ground.phase }, { on := 3, ground := Ground.phase }, { on := 4, ground := Ground.phase }, { on := 5, ground := Ground.phase }], guard := none }) (v := ?v21) rfl (by kernel_rfl) (by kernel_rfl) (by kernel_rfl) (fun _ _ _ h => h) (Or.inl ⟨by rfl, ?hy21⟩) (by assumption) ?_
              case hy21 => (intro w hSw; (try dsimp only at hSw); go_simp; try with_reducible rfl)
              try simp only [Act.put, List.setIfInBounds_toArray, List.set_cons_zero, List.set_cons_succ]
              refine wpAnyH_ready (rs := [7]) (by kernel_rfl) (by simp) ?_
              refine AllReadyH.cons (o := { dst := none, op := Op.store 9 (Operand.tmp 108) (Operand.tmp 107), type := 0, pos := "more.go:63", after := #[{ on := 6, ground := Ground.data }, { on := 5, ground := Ground.data }, { on := 0, ground := Ground.phase }, { on := 1, ground := Ground.phase }, { on := 2, ground := Ground.phase }, { on := 3, ground := Ground.phase }, { on := 4, ground := Ground.phase }, { on := 5, ground := Ground.phase }], guard := none }) rfl (fun K hK => ?_) AllReadyH.nil
              rw [if_pos (by rfl)]
              have d1 : wt.drew.cell? ⟨gR, 1, none⟩ = some (.string p1) := c1
              have df1 : wt.drew.frozen? ⟨gR, 1, none⟩ = false := fz1
              go_simp
              clear d1 df1
              obtain ⟨ws, hws⟩ : ∃ W, W = (wt.setCell ⟨gR, 1, none⟩ (.string p0)).drew := ⟨_, rfl⟩
              rw [← hws]
              have hdr : Below (wt.setCell ⟨gR, 1, none⟩ (.string p0)).heap.size (wt.setCell ⟨gR, 1, none⟩ (.string p0)) ws := by rw [hws]; exact (Below.refl _ _).drew
              have hT5 := hT1.below hdr
              have bx5 := bxS.below hdr hsS
              have hbl5 := hblS.trans (hdr.mono hblS.size)
              have s0 : ws.cell? ⟨gR, 0, none⟩ = some (.string p0) := by rw [hws]; exact (World.cell?_setCell_other _ _ _ _ (by simp)).trans c0
              refine hK.out _ _ (⟨bx5.1, s0⟩) (fun hHeld => ?_)
              clear hK K
              try simp only [Act.put, List.setIfInBounds_toArray, List.set_cons_zero, List.set_cons_succ]
              refine wpAnyH_take (i := 8) (oi := { dst := some 12, op := Op.assign (Operand.const (Value.bool false)), type := 4, pos := "more.go:63", after := #[{ on := 7, ground := Ground.chain }, { on := 0, ground := Ground.phase }, { on := 1, ground := Ground.phase }, { on := 2, ground := Ground.phase }, { on := 3, ground := Ground.phase }, { on := 4, ground := Ground.phase }, { on := 5, ground := Ground.phase }, { on := 6, ground := Ground.phase }, { on := 7, ground := Ground.phase }], guard := none }) (v := ?v22) rfl (by kernel_rfl) (by kernel_rfl) (by kernel_rfl) (fun _ _ _ h => h) (Or.inl ⟨by rfl, ?hy22⟩) (by assumption) ?_
              case hy22 => (intro w hSw; (try dsimp only at hSw); go_simp; try with_reducible rfl)
              try simp only [Act.put, List.setIfInBounds_toArray, List.set_cons_zero, List.set_cons_succ]
              refine wpAnyH_done (by kernel_rfl) ?_ _
              clear b0 b1 b2 c0 c1 s0
              obtain ⟨b0, b1, b2, _⟩ := bx5
              have hIS := is7_any ws ⟨some ⟨gR, 0, none⟩, n, cr, al, k, cl, none, 0, 0⟩ ⟨(lets n).set 1 [letter 0], L, []⟩ hT5 (HG.out.below hbl5) HBR5.out (by dsimp only; omega) (by dsimp only; omega) (by dsimp only; omega)
              try dsimp only at hIS
              rw [hd5] at hIS
              have HBL := Lib.hid hbl5
              clear hd0 hT0 hLl hltw hT1 hT5 bxS hblS hdr hws hsz hsS hbl5 hd5 fz1
              go_wp2_with (first
                | (go_at_call 12; refine hIS.mono ?_; rintro e w8 ⟨rfl, hb8⟩; have acc := HBL.out.trans (hb8.mono HBL.out.size); clear hb8)
                | (go_at_call 14; refine (known_any _ (HG.out.below acc)).mono ?_; rintro e w9 ⟨rfl, hb9⟩; replace acc := acc.trans (hb9.mono acc.size); clear hb9))
              go_ret
              exact ⟨rfl, acc⟩
            · obtain ⟨b0, b1, b2, _⟩ := HBX2.out
              go_upto_region 29 with (at_builtin; refine wpList_append_link _ rfl (.tmp 112) (.tmp 114) rfl wo.heap.size al k cl L rfl (HOL.out.alloc _) wt.heap.size [65] [65] rfl (heap_alloc_new _ _) (by omega) (by have := HOF.out.size; simp; omega) ?_; intro g6 c6 w6 hown6 hb6; have bb6 := (HBX2.out.alloc (.cells #[.string ⟨#[65]⟩, .string ⟨#[65]⟩] 37)).below hb6 HLT.out; have bb7 := bb6; obtain ⟨d0, d1, d2, df⟩ := bb7; have df1 := df 1; clear df)
              have hal : Below wt.heap.size wt (wt.alloc (.cells #[.string ⟨#[65]⟩, .string ⟨#[65]⟩] 37)) := (Below.refl _ _).alloc (Nat.le_refl _) _
              have hof := ((HOF.out.below hal HOF.out.size).below hb6 (Nat.le_refl _)).set 1 (.slice (some ⟨g6, 0, none⟩) (k + 1) c6)
              have hbl := ((HB2.out.trans (hal.mono HB2.out.size)).trans (hb6.mono HB.out.size)).setCell (p := ⟨w.heap.size, 1, none⟩) (Nat.le_refl _) (.slice (some ⟨g6, 0, none⟩) (k + 1) c6)
              have bb8 := bb6.set1 (.slice (some ⟨g6, 0, none⟩) (k + 1) c6)
              have hT2 : Tt (w6.setCell ⟨w.heap.size, 1, none⟩ (.slice (some ⟨g6, 0, none⟩) (k + 1) c6)) ⟨ar, n, cr, some ⟨g6, 0, none⟩, k + 1, c6, none, 0, 0⟩ ⟨lets n, L ++ [([65], [65])], []⟩ := ⟨At.owns (hof.own HO.out), LinksAt.owns (ownsRow_setCell_below hown6 (a := ⟨w.heap.size, 1, none⟩) HLT.out _), WaysAt.nil _ _, hcr, ownL_cap hown6, Nat.le_refl _⟩
              have hd2 : decide (topoOk ⟨lets n, L ++ [([65], [65])], []⟩) = false := fin2 (.inl rfl)
              obtain ⟨ws, hws⟩ : ∃ W, W = w6.setCell ⟨w.heap.size, 1, none⟩ (.slice (some ⟨g6, 0, none⟩) (k + 1) c6) := ⟨_, rfl⟩
              rw [← hws] at hof hbl bb8 hT2 ⊢
              clear b0 b1 b2 d0 d1 d2 df1 bb6 hown6 hb6 hal hws hof
              obtain ⟨b0, b1, b2, _⟩ := bb8
              clear hd0 hT0 hLl hltw
              have hIS := is7_any ws ⟨ar, n, cr, some ⟨g6, 0, none⟩, k + 1, c6, none, 0, 0⟩ ⟨lets n, L ++ [([65], [65])], []⟩ hT2 (HG.out.below hbl) HBR.out (by dsimp only; omega) (by dsimp only; omega) (by dsimp only; omega)
              try dsimp only at hIS
              rw [hd2] at hIS
              have HBL := Lib.hid hbl
              clear hd2 hT2 hbl
              go_wp2_with (first
                | (go_at_call 12; refine hIS.mono ?_; rintro e w8 ⟨rfl, hb8⟩; have acc := HBL.out.trans (hb8.mono HBL.out.size); clear hb8)
                | (go_at_call 14; refine (known_any _ (HG.out.below acc)).mono ?_; rintro e w9 ⟨rfl, hb9⟩; replace acc := acc.trans (hb9.mono acc.size); clear hb9))
              go_ret
              exact ⟨rfl, acc⟩
            · obtain ⟨b0, b1, b2, _⟩ := HBX2.out
              go_upto_region 29 with (at_builtin; refine wpList_append_link _ rfl (.tmp 120) (.tmp 122) rfl wo.heap.size al k cl L rfl (HOL.out.alloc _) wt.heap.size [65] [90] rfl (heap_alloc_new _ _) (by omega) (by have := HOF.out.size; simp; omega) ?_; intro g6 c6 w6 hown6 hb6; have bb6 := (HBX2.out.alloc (.cells #[.string ⟨#[65]⟩, .string ⟨#[90]⟩] 37)).below hb6 HLT.out; have bb7 := bb6; obtain ⟨d0, d1, d2, df⟩ := bb7; have df1 := df 1; clear df)
              have hal : Below wt.heap.size wt (wt.alloc (.cells #[.string ⟨#[65]⟩, .string ⟨#[90]⟩] 37)) := (Below.refl _ _).alloc (Nat.le_refl _) _
              have hof := ((HOF.out.below hal HOF.out.size).below hb6 (Nat.le_refl _)).set 1 (.slice (some ⟨g6, 0, none⟩) (k + 1) c6)
              have hbl := ((HB2.out.trans (hal.mono HB2.out.size)).trans (hb6.mono HB.out.size)).setCell (p := ⟨w.heap.size, 1, none⟩) (Nat.le_refl _) (.slice (some ⟨g6, 0, none⟩) (k + 1) c6)
              have bb8 := bb6.set1 (.slice (some ⟨g6, 0, none⟩) (k + 1) c6)
              have hT2 : Tt (w6.setCell ⟨w.heap.size, 1, none⟩ (.slice (some ⟨g6, 0, none⟩) (k + 1) c6)) ⟨ar, n, cr, some ⟨g6, 0, none⟩, k + 1, c6, none, 0, 0⟩ ⟨lets n, L ++ [([65], [90])], []⟩ := ⟨At.owns (hof.own HO.out), LinksAt.owns (ownsRow_setCell_below hown6 (a := ⟨w.heap.size, 1, none⟩) HLT.out _), WaysAt.nil _ _, hcr, ownL_cap hown6, Nat.le_refl _⟩
              have hd2 : decide (topoOk ⟨lets n, L ++ [([65], [90])], []⟩) = false := fin2 (.inr (lets_noZ n (by omega)))
              obtain ⟨ws, hws⟩ : ∃ W, W = w6.setCell ⟨w.heap.size, 1, none⟩ (.slice (some ⟨g6, 0, none⟩) (k + 1) c6) := ⟨_, rfl⟩
              rw [← hws] at hof hbl bb8 hT2 ⊢
              clear b0 b1 b2 d0 d1 d2 df1 bb6 hown6 hb6 hal hws hof
              obtain ⟨b0, b1, b2, _⟩ := bb8
              clear hd0 hT0 hLl hltw
              have hIS := is7_any ws ⟨ar, n, cr, some ⟨g6, 0, none⟩, k + 1, c6, none, 0, 0⟩ ⟨lets n, L ++ [([65], [90])], []⟩ hT2 (HG.out.below hbl) HBR.out (by dsimp only; omega) (by dsimp only; omega) (by dsimp only; omega)
              try dsimp only at hIS
              rw [hd2] at hIS
              have HBL := Lib.hid hbl
              clear hd2 hT2 hbl
              go_wp2_with (first
                | (go_at_call 12; refine hIS.mono ?_; rintro e w8 ⟨rfl, hb8⟩; have acc := HBL.out.trans (hb8.mono HBL.out.size); clear hb8)
                | (go_at_call 14; refine (known_any _ (HG.out.below acc)).mono ?_; rintro e w9 ⟨rfl, hb9⟩; replace acc := acc.trans (hb9.mono acc.size); clear hb9))
              go_ret
              exact ⟨rfl, acc⟩
            · obtain ⟨b0, b1, b2, _⟩ := HBX2.out
              obtain ⟨wA, hwA⟩ : ∃ W, W = wt.alloc (.cells #[.string ⟨#[65]⟩] 9) := ⟨_, rfl⟩
              obtain ⟨wB, hwB⟩ : ∃ W, W = wA.alloc (.cells #[.string ⟨#[65]⟩, .string ⟨#[66]⟩, .slice (some ⟨wt.heap.size, 0, none⟩) 1 1] 42) := ⟨_, rfl⟩
              have zA : wA.heap.size = wt.heap.size + 1 := by rw [hwA]; simp
              have zB : wB.heap.size = wt.heap.size + 2 := by rw [hwB]; simp; omega
              have bA : Below wt.heap.size wt wA := by rw [hwA]; exact (Below.refl _ _).alloc (Nat.le_refl _) _
              have bB : Below wA.heap.size wA wB := by rw [hwB]; exact (Below.refl _ _).alloc (Nat.le_refl _) _
              have hAt : At wB (some ⟨wt.heap.size, 0, none⟩) 1 [[65]] := At.below (w := wA) (by rw [hwA]; exact at_block (l := [[65]]) (heap_alloc_new _ _)) bB
              have hblk : wB.heap[wt.heap.size + 1]? = some (.cells #[.string ⟨#[65]⟩, .string ⟨#[66]⟩, .slice (some ⟨wt.heap.size, 0, none⟩) 1 1] 42 (0, 0)) := by rw [hwB, ← zA]; exact heap_alloc_new _ _
              have bbB := (HBX2.out.below bA hltw).below bB (by omega)
              have hwe := hwB
              rw [hwA] at hwe
              have HWE := Lib.hid hwe
              clear hwA hwB hwe
              go_upto_region 28 with fail
              go_upto_region 29 with (at_builtin; rw [← HWE.out]; refine wpList_append_way _ rfl (.tmp 128) (.tmp 131) rfl wB.heap.size rfl (wt.heap.size + 1) [65] [66] (some ⟨wt.heap.size, 0, none⟩) 1 1 rfl hblk (Nat.le_refl _) ?_; intro g6 c6 w6 hc6 hg6 hl6 y0 y1 y2 hb6; have bb6 := bbB.below hb6 (by omega); have bb7 := bb6; obtain ⟨d0, d1, d2, df⟩ := bb7; have df2 := df 2; clear df)
              have hof0 := (Off.refl w.heap.size wB).below hb6 (Nat.le_refl _)
              have hofB := hof0.set 2 (.slice (some ⟨g6, 0, none⟩) 1 c6)
              have hof := (((HOF.out.below bA HOF.out.size).below bB (by have := HOF.out.size; omega)).below hb6 (by have := HOF.out.size; omega)).set 2 (.slice (some ⟨g6, 0, none⟩) 1 c6)
              have hbl := (((HB2.out.trans (bA.mono HB2.out.size)).trans (bB.mono (by omega))).trans (hb6.mono (by omega))).setCell (p := ⟨w.heap.size, 2, none⟩) (Nat.le_refl _) (.slice (some ⟨g6, 0, none⟩) 1 c6)
              have hne : g6 ≠ w.heap.size := by omega
              have hT4 : Tt (w6.setCell ⟨w.heap.size, 2, none⟩ (.slice (some ⟨g6, 0, none⟩) 1 c6)) ⟨ar, n, cr, al, k, cl, some ⟨g6, 0, none⟩, 1, c6⟩ ⟨lets n, L, [(([65], [66]), [[65]])]⟩ := by
                refine ⟨At.owns (hof.own HO.out), LinksAt.owns (ownsRow_setCell_below (ownL_below (ownL_below (ownL_below HOL.out bA) bB) hb6) (a := ⟨w.heap.size, 2, none⟩) HLT.out _), ⟨rfl, fun _ => ⟨g6, 0, rfl, Nat.lt_of_lt_of_le hl6 ((Below.refl w.heap.size w6).setCell (p := ⟨w.heap.size, 2, none⟩) (Nat.le_refl _) _).size, fun j hj => ?_⟩⟩, hcr, ownL_cap HOL.out, hc6⟩
                have hj0 : j = 0 := by have hj1 : j < 1 := hj; omega
                subst hj0
                exact ⟨_, 1, 1, keep_other2 hne y0, keep_other2 hne y1, keep_other2 hne y2, hAt.off hofB (fun b off e => by simp only [Option.some.injEq, Addr.mk.injEq] at e; omega), Nat.le_refl _⟩
              have hd4 : decide (topoOk ⟨lets n, L, [(([65], [66]), [[65]])]⟩) = false := fin4
              have e0 : (w6.setCell ⟨w.heap.size, 2, none⟩ (.slice (some ⟨g6, 0, none⟩) 1 c6)).cell? ⟨w.heap.size, 0, none⟩ = some (.slice ar n cr) := (World.cell?_setCell_other _ _ _ _ (by simp)).trans d0
              have e1 : (w6.setCell ⟨w.heap.size, 2, none⟩ (.slice (some ⟨g6, 0, none⟩) 1 c6)).cell? ⟨w.heap.size, 1, none⟩ = some (.slice al k cl) := (World.cell?_setCell_other _ _ _ _ (by simp)).trans d1
              have e2 : (w6.setCell ⟨w.heap.size, 2, none⟩ (.slice (some ⟨g6, 0, none⟩) 1 c6)).cell? ⟨w.heap.size, 2, none⟩ = some (.slice (some ⟨g6, 0, none⟩) 1 c6) := World.cell?_setCell_same _ _ _ d2
              obtain ⟨ws, hws⟩ : ∃ W, W = w6.setCell ⟨w.heap.size, 2, none⟩ (.slice (some ⟨g6, 0, none⟩) 1 c6) := ⟨_, rfl⟩
              rw [← hws] at hbl hT4 e0 e1 e2 ⊢
              clear b0 b1 b2 d0 d1 d2 df2 bb6 hb6 hws hof hof0 hofB y0 y1 y2 hblk hAt bbB bA bB zA zB hd0 hT0 hLl hltw
              have hIS := is7_any ws ⟨ar, n, cr, al, k, cl, some ⟨g6, 0, none⟩, 1, c6⟩ ⟨lets n, L, [(([65], [66]), [[65]])]⟩ hT4 (HG.out.below hbl) HBR.out (by dsimp only; omega) (by dsimp only; omega) (by dsimp only; omega)
              try dsimp only at hIS
              rw [hd4] at hIS
              have HBL := Lib.hid hbl
              clear hd4 hT4 hbl
              go_wp2_with (first
                | (go_at_call 12; refine hIS.mono ?_; rintro e w8 ⟨rfl, hb8⟩; have acc := HBL.out.trans (hb8.mono HBL.out.size); clear hb8)
                | (go_at_call 14; refine (known_any _ (HG.out.below acc)).mono ?_; rintro e w9 ⟨rfl, hb9⟩; replace acc := acc.trans (hb9.mono acc.size); clear hb9))
              go_ret
              exact ⟨rfl, acc⟩
set_option maxHeartbeats 4000000 in
theorem routeBounds_walk (n links way : Int) (_ : (Lit.int .i64 n).wf = true) (_ : (Lit.int .i64 links).wf = true) (_ : (Lit.int .i64 way).wf = true) (w : World) (hg : Glob w) :
    Calls Tryd.prog 8 #[.int .i64 n, .int .i64 links, .int .i64 way] w fun e w' => e = .returned (.bool true) ∧ Below w.heap.size w w' := by
  by_cases a0 : n < 0
  · go_enter Tryd.func8, Tryd.ntmps8
    go_wp2
    go_ret
    exact ⟨rfl, Below.refl _ _⟩
  by_cases a1 : 9 < n
  · go_enter Tryd.func8, Tryd.ntmps8
    go_wp2
    go_ret
    exact ⟨rfl, Below.refl _ _⟩
  by_cases a2 : links < 0
  · go_enter Tryd.func8, Tryd.ntmps8
    go_wp2
    go_ret
    exact ⟨rfl, Below.refl _ _⟩
  by_cases a3 : 40 < links
  · go_enter Tryd.func8, Tryd.ntmps8
    go_wp2
    go_ret
    exact ⟨rfl, Below.refl _ _⟩
  by_cases a4 : way < 0
  · go_enter Tryd.func8, Tryd.ntmps8
    go_wp2
    go_ret
    exact ⟨rfl, Below.refl _ _⟩
  by_cases a5 : 4 < way
  · go_enter Tryd.func8, Tryd.ntmps8
    go_wp2
    go_ret
    exact ⟨rfl, Below.refl _ _⟩
  obtain ⟨n, rfl⟩ : ∃ m : Nat, n = (m : Int) := ⟨n.toNat, by omega⟩
  obtain ⟨links, rfl⟩ : ∃ m : Nat, links = (m : Int) := ⟨links.toNat, by omega⟩
  obtain ⟨way, rfl⟩ : ∃ m : Nat, way = (m : Int) := ⟨way.toNat, by omega⟩
  exact routeBounds_in n links way (by omega) (by omega) (by omega) w hg
end Go.Proofs.YtcleonpckgfdhaaDoor
