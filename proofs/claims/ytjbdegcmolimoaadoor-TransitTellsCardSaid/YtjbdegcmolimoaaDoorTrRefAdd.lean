/-
  legateref6.add, sub.
-/
import Derived.Test.YtjbdegcmolimoaaDoorTrRefC
import Derived.Test.YtjbdegcmolimoaaDoorTrOpen
set_option linter.unusedVariables false
set_option linter.unusedSimpArgs false
namespace Go.Proofs.YtjbdegcmolimoaaDoor
open Go Go.RowKit Go.Lib Go.Shelf

theorem own_prefix {w : World} {base g n cap : Nat} {l : List Str} {y : Str} (h : w.ownsRow base 9 1 (.slice (some ⟨g, 0, none⟩) (n + 1) cap) (n + 1) (strs (l ++ [y]))) : w.ownsRow base 9 1 (.slice (some ⟨g, 0, none⟩) n cap) n (strs l) := by
  have hl : (strs l).length = n := by
    have := h.1
    rw [strs_length] at this ⊢
    simp at this
    omega
  rcases h.2 with ⟨hv, _⟩ | ⟨g', cap', cur, hv, hbg, hg, hnc, hcm, hcs, htake⟩
  · cases hv
  · cases hv
    refine ⟨by rw [hl]; omega, .inr ⟨g, cap, cur, rfl, hbg, hg, by omega, hcm, hcs, ?_⟩⟩
    have h2 := congrArg (List.take n) htake
    rw [List.take_take, show min n ((n + 1) * 1) = n by omega] at h2
    rw [Nat.mul_one, h2]
    rw [show strs (l ++ [y]) = strs l ++ strs [y] by simp [strs], ← hl, List.take_left]

/-- append of a text: the row is owned still. -/
theorem wpList_append_keep {ops : Array Oper} {rest : List Oper} {o : Oper} {a : Act} {Q : Exit → Act → World → Prop} (w : World) (hgd : o.guard = none) (s x : Operand)
    (ho : o.op = .call { callee := .builtin .append, args := #[s, x], argTypes := #[24, 24] }) (base : Nat) (ad : Option Addr) (n c : Nat) (l : List Str) (hs : a.eval s = .slice ad n c) (hown : w.ownsRow base 9 1 (.slice ad n c) n (strs l))
    (blk : Nat) (y : Str) (hx : a.eval x = .slice (some ⟨blk, 0, none⟩) 1 1) (hblk : w.heap[blk]? = some (.cells #[.string ⟨y.toArray⟩] 9 (0, 0))) (hn : n ≤ 100000) (hbase : base ≤ w.heap.size)
    (h : ∀ g cap w', w'.ownsRow base 9 1 (.slice (some ⟨g, 0, none⟩) (n + 1) cap) (n + 1) (strs (l ++ [y])) → Below base w w' → w'.ownsRow base 9 1 (.slice ad n c) n (strs l) → w.grownBy w' (Value.slice ad n c).ownBlock → ((Value.slice ad n c).ownBlock = some g ∨ g = w.heap.size) → wpList Tryd.prog ops Q rest (a.put o.dst (.slice (some ⟨g, 0, none⟩) (n + 1) cap)) w') : wpList Tryd.prog ops Q (o :: rest) a w := by
  rcases hown.2 with ⟨hv, hn0⟩ | ⟨g, cap, cur, hv, hbg, hg, hnc, hcm, hcs, htake⟩
  · cases hv
    have hl : strs l = [] := List.length_eq_zero_iff.1 (by have := hown.1; omega)
    refine wpList_append_far w hgd s x ho base none 0 0 l hs hown blk y hx hblk (by omega) hbase fun g cap w' h1 h2 h3 h4 => h g cap w' h1 h2 ?_ h3 h4
    rw [hl]
    exact World.ownsRow_nil _ _ _ _
  · cases hv
    have hI := info_str
    rw [Option.map_eq_some_iff] at hI
    obtain ⟨i0, hi, he⟩ := hI
    simp only [Prod.mk.injEq] at he
    have hnews : ∀ j u, ([.string ⟨y.toArray⟩] : List Value)[j]? = some u → w.cell? ((⟨blk, 0, none⟩ : Addr).add j) = some u := World.news_of_block (cs := #[.string ⟨y.toArray⟩]) hblk
    have h1c : ∀ u ∈ ([.string ⟨y.toArray⟩] : List Value), u.oneCell' = true := fun u hu => by simp at hu; subst hu; rfl
    have hstep : ∀ g' cap' w', (Builtin.append_ #[24, 24] o.type #[.slice (some ⟨g, 0, none⟩) n c, .slice (some ⟨blk, 0, none⟩) 1 1]).run Tryd.prog w = .ok (.slice (some ⟨g', 0, none⟩) (n + 1) cap') w' →
        w'.ownsRow base 9 1 (.slice (some ⟨g', 0, none⟩) (n + 1) cap') (n + 1) (strs (l ++ [y])) → Below base w w' → w'.ownsRow base 9 1 (.slice (some ⟨g, 0, none⟩) n c) n (strs l) → w.grownBy w' (Value.slice (some ⟨g, 0, none⟩) n c).ownBlock → ((Value.slice (some ⟨g, 0, none⟩) n c).ownBlock = some g' ∨ g' = w.heap.size) → wpList Tryd.prog ops Q (o :: rest) a w := by
      intro g' cap' w' hrun q1 q2 q3 q4 q5
      refine wpList_plain hgd fun K' hK' => ?_
      unfold Oper.wp execOp
      simp only [ho, resolve, invoke, builtin, Sem.run_bind, Sem.run_pure, Result.andThen_ok, List.map_toArray, List.map_cons, List.map_nil, hs, hx, hrun]
      exact hK' _ _ (h g' cap' w' q1 q2 q3 q4 q5)
    have hsn : strs (l ++ [y]) = strs l ++ [.string ⟨y.toArray⟩] := by simp [strs, strv]
    by_cases hroom : n + 1 ≤ c
    · obtain ⟨w', hr, ho', hgr⟩ := run_append_fits (P := Tryd.prog) w base 24 o.type 9 i0 1 Tryd.underlying24 hi he.2.1 g n c (strs l) hown ⟨blk, 0, none⟩ 1 1 [.string ⟨y.toArray⟩] (by simp) hnews h1c hroom
      rw [← hsn] at ho'
      exact hstep g c w' hr ho' ((Below.refl base w).grown hgr hbase (fun k hk => by simp at hk; omega)) (own_prefix ho') hgr (.inl rfl)
    · have hlo : (strs l).length = n * i0.size := by rw [he.2.1]; exact hown.1
      have hr := run_append_grow (P := Tryd.prog) w 24 o.type 9 i0 (.string ⟨#[]⟩) Tryd.underlying24 hi he.1 ⟨g, 0, none⟩ n c (strs l) hlo (fun j v hj => by
          have hj' : j < (strs l).length := (List.getElem?_eq_some_iff.1 hj).1
          have := (At.owns hown).cell (by rw [hown.1] at hj'; omega)
          obtain ⟨b, off, e1, e2, e3⟩ := this
          cases e1
          have := e3 j (by rw [hown.1] at hj'; omega)
          rw [strs_length] at hj'
          rw [show (⟨g, 0, none⟩ : Addr).add j = ⟨g, 0 + j, none⟩ by unfold Addr.add; split <;> simp_all, this, getElem!_pos l j hj']
          rw [strs, List.getElem?_map, List.getElem?_eq_getElem hj'] at hj
          simpa [strv] using hj) ⟨blk, 0, none⟩ 1 1 [.string ⟨y.toArray⟩] (by rw [he.2.1]; rfl) hnews (by omega) (by omega) (growslice_fits (by omega) (by rw [he.2.2]; omega))
      obtain ⟨v', w', hr', ho', hgr, _⟩ := run_append_own (P := Tryd.prog) w base 24 o.type 9 i0 (.string ⟨#[]⟩) 1 16 Tryd.underlying24 hi he.1 he.2.1 he.2.2 rfl (by decide) (.slice (some ⟨g, 0, none⟩) n c) n (strs l) hown ⟨blk, 0, none⟩ 1 1 [.string ⟨y.toArray⟩] (by simp) hnews h1c (by unfold maxLen; omega) (by omega) hbase
      have hr2 := hr'.symm.trans hr
      simp only [Result.ok.injEq] at hr2
      obtain ⟨rfl, rfl⟩ := hr2
      rw [← hsn] at ho'
      refine hstep _ _ _ hr ho' ((Below.refl base w).grown hgr hbase (fun k hk => by simp [Value.ownBlock] at hk; omega)) (own_below hown ?_) hgr (.inr rfl)
      exact (Below.refl _ _).drew.alloc (Nat.le_refl _) _
def AddPost (w w' : World) (base : Nat) (ad : Option Addr) (n c : Nat) (l : List Str) (r : Str) (e : Ending) : Prop :=
  ∃ ad' c', e = .returned (.slice ad' (addOf l r).length c') ∧ w'.ownsRow base 9 1 (.slice ad' (addOf l r).length c') (addOf l r).length (strs (addOf l r)) ∧ w'.ownsRow base 9 1 (.slice ad n c) n (strs l) ∧ Below base w w' ∧ (∀ b, b < w.heap.size → (Value.slice ad 0 0).ownBlock ≠ some b → w'.heap[b]? = w.heap[b]?) ∧ ((Value.slice ad' 0 0).ownBlock = (Value.slice ad 0 0).ownBlock ∨ ∃ b, (Value.slice ad' 0 0).ownBlock = some b ∧ w.heap.size ≤ b)

set_option maxHeartbeats 2000000 in
theorem refadd_any (w : World) (base : Nat) (ad : Option Addr) (n c : Nat) (l : List Str) (r : ByteArray) (hown : w.ownsRow base 9 1 (.slice ad n c) n (strs l)) (hn : n ≤ 90000) (hbase : base ≤ w.heap.size) :
    Calls Tryd.prog 40 #[.slice ad n c, .string r] w fun e w' => AddPost w w' base ad n c l r.data.toList e := by
  have hA := At.owns hown
  have HA := Lib.hid hA
  have HL := Lib.hid hA.len
  have HO := Lib.hid hown
  clear hA hown
  go_enter Tryd.func40, Tryd.ntmps40
  go_wp2
  go_loopg [5] n (fun gg s5 wr => ∃ i : Nat, i ≤ n ∧ n - i ≤ gg ∧ s5 = .int .i64 i ∧ Aside (∀ j, j < i → l[j]! ≠ r.data.toList) ∧ wr = w)
  case atStart => exact ⟨0, by omega, by omega, rfl, fun j hj => absurd hj (Nat.not_lt_zero _), rfl⟩
  case round =>
    obtain ⟨i, hi, hgg, rfl, HR, rfl⟩ := hrel
    by_cases hlt : i < n
    · have hltz : (i : Int) < (n : Int) := by omega
      obtain ⟨b, off, hbk, hbb, hc⟩ := HA.out.cell (by omega)
      obtain ⟨x, hxx⟩ : ∃ x : ByteArray, x = ⟨l[i]!.toArray⟩ := ⟨_, rfl⟩
      have hxd : x.data.toList = l[i]! := by rw [hxx]
      have kx := hc i hlt
      rw [← hxx] at kx
      have HX := Lib.hid hxd
      have HBK := Lib.hid hbk
      have hq := eq_text x r
      subst hbk
      clear hc hxx hxd
      by_cases he : x.data.toList = r.data.toList
      · rw [decide_eq_true he] at hq
        have hold : addOf l r.data.toList = l := by
          refine addOf_old ?_
          rw [← he, HX.out, getElem!_pos l i (by rw [HL.out]; omega)]
          exact List.getElem_mem _
        have HOL := Lib.hid hold
        clear he hold
        go_wp2
        go_ret
        exact ⟨some ⟨b, off, none⟩, c, by rw [HOL.out, HL.out]; rfl, by rw [HOL.out, HL.out]; exact HO.out, HO.out, Below.refl _ _, fun _ _ _ => rfl, .inl rfl⟩
      · rw [decide_eq_false he] at hq
        have HE := Lib.hid he
        clear he
        go_wp2
        go_roundg (n - (i + 1))
        case measure => omega
        case rel =>
          refine ⟨i + 1, by omega, by omega, by go_num, fun j hj => ?_, rfl⟩
          by_cases e : j = i
          · subst e; rw [← HX.out]; exact HE.out
          · exact HR.out j (by omega)
    · have hin : i = n := by omega
      subst hin
      have hnew : addOf l r.data.toList = l ++ [r.data.toList] := by
        refine addOf_new fun hm => ?_
        obtain ⟨j, hj, e⟩ := List.getElem_of_mem hm
        have := HR.out j (by rw [← HL.out]; exact hj)
        rw [getElem!_pos l j hj] at this
        exact this e
      have hlen : (l ++ [r.data.toList]).length = i + 1 := by rw [List.length_append, HL.out]; rfl
      have HN := Lib.hid hnew
      have HLE := Lib.hid hlen
      clear hnew hlen HR
      go_wp2_with (at_builtin; refine wpList_append_keep _ rfl (.tmp 19) (.tmp 21) rfl base ad i c l rfl (HO.out.alloc _) wr.heap.size r.data.toList rfl (heap_alloc_new _ _) (by omega) (Nat.le_trans hbase (by simp)) ?_; intro g7 cap7 w7 hown7 hb7 hkeep7 hgrow7 hor7)
      go_ret
      refine ⟨some ⟨g7, 0, none⟩, cap7, by rw [HN.out, HLE.out]; rfl, by rw [HN.out, HLE.out]; exact hown7, hkeep7, (((Below.refl _ wr).alloc (Nat.le_refl _) _).mono hbase).trans hb7, fun b hb hne => ?_, ?_⟩
      · have hal : Below wr.heap.size wr (wr.alloc (.cells #[.string ⟨r.data.toList.toArray⟩] 9)) := (Below.refl _ wr).alloc (Nat.le_refl _) _
        refine (hgrow7.block b (Nat.lt_of_lt_of_le hb hal.size) (fun e => hne ?_)).trans (hal.block b hb)
        rw [own_block] at e
        exact e.symm
      · rw [own_block] at hor7
        rcases hor7 with h | h
        · exact .inl h.symm
        · refine .inr ⟨g7, rfl, ?_⟩
          have : (wr.alloc (.cells #[.string r] 9)).heap.size = wr.heap.size + 1 := by simp
          omega
end Go.Proofs.YtjbdegcmolimoaaDoor
