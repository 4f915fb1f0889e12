/-
  slices.DeleteFunc at []api.Authn with the predicate of replay.See: what the call leaves.
-/
import Derived.Test.YtjikekfjhfcdpaaPlain
import Derived.Test.YtjikekfjhfcdpaaShelf
import Derived.Laws.StructEq
import Derived.WalkKit
import Derived.WalkLawsBesides
import Derived.Deep.LoopGhost
import Derived.Lib.SliceRun
set_option linter.unusedVariables false
set_option linter.unusedSimpArgs false
namespace Go.Proofs.Ytjikekfjhfcdpaa
open Go Go.RowKit Go.Lib Go.Shelf

/-- What See keeps. -/
def keep (now : Int) (a : Au) : Bool := !decide (a.time < now - 5)

theorem closure_any (W : World) (x : Au) (nb : Nat) (now : Int) (hn : -4611686018427387904 ≤ now ∧ now ≤ 4611686018427387904) (hc : W.cell? ⟨nb, 0, none⟩ = some (.int .i64 now)) (hb : nb < W.heap.size) :
    Calls Try.prog 20 #[.agg #[.string x.realm, .string x.name, .int .i64 x.time, .int .i64 x.seq], .pointer (some ⟨nb, 0, none⟩)] W fun e w' => e = .returned (.bool (decide (x.time < now - 5))) ∧ w' = W.alloc (.cells #[.string x.realm, .string x.name, .int .i64 x.time, .int .i64 x.seq] 29) := by
  obtain ⟨h1, h2⟩ := hn
  have hne : nb ≠ W.heap.size := by omega
  go_enter Try.func20, Try.ntmps20
  go_wp2
  go_ret
  exact ⟨rfl, rfl⟩


/-- The row of a slice of authenticators: its block's cells. -/
def RowAt (w : World) (g : Nat) (l : List Au) (tl : List Value) : Prop := w.heap[g]? = some (.cells (encs l ++ tl).toArray 29 (0, 0))

theorem RowAt.cell {w : World} {g : Nat} {l : List Au} {tl : List Value} (h : RowAt w g l tl) {j c : Nat} (hj : j < l.length) (hc : c < 4) : w.cell? ⟨g, j * 4 + c, none⟩ = (enc l[j]!)[c]? := by
  unfold RowAt at h
  simp only [World.cell?, h]
  have hlt : j * 4 + c < (encs l).length := by rw [encs_length]; omega
  have h2 := encs_get l j c hj hc
  rw [← h2]
  show (encs l ++ tl).toArray[j * 4 + c]? = _
  rw [List.getElem?_toArray, List.getElem?_append_left hlt]

theorem RowAt.free {w : World} {g : Nat} {l : List Au} {tl : List Value} (h : RowAt w g l tl) (j : Nat) : w.frozen? ⟨g, j, none⟩ = false := by
  unfold RowAt at h
  simp [World.frozen?, h]

theorem RowAt.lt {w : World} {g : Nat} {l : List Au} {tl : List Value} (h : RowAt w g l tl) : g < w.heap.size := by
  rcases Nat.lt_or_ge g w.heap.size with h' | h'
  · exact h'
  · unfold RowAt at h; simp [Array.getElem?_eq_none h'] at h

theorem RowAt.below {B : Nat} {w w' : World} {g : Nat} {l : List Au} {tl : List Value} (h : RowAt w g l tl) (hb : Below B w w') (hg : g < B) : RowAt w' g l tl := by
  unfold RowAt at h ⊢
  rw [hb.block g hg]; exact h

theorem indexFunc_any (w : World) (nb g n cap : Nat) (now : Int) (hn : -4611686018427387904 ≤ now ∧ now ≤ 4611686018427387904) (hc : w.cell? ⟨nb, 0, none⟩ = some (.int .i64 now)) (hnb : nb < w.heap.size)
    (zs : List Au) (tl : List Value) (hrow : RowAt w g zs tl) (hlen : zs.length = n) (hbig : n ≤ 9223372036854775807) :
    Calls Try.prog 22 #[.slice (some ⟨g, 0, none⟩) n cap, .func (.func 20) #[] #[.pointer (some ⟨nb, 0, none⟩)]] w fun e w' => e = .returned (.int .i64 (Lib.idxBy (fun _ y => decide (y.time < now - 5)) zs default)) ∧ Below w.heap.size w w' := by
  have eg : ∀ args w, (callFunc 20 args).run Try.prog w = .ok (.enter 20 args) w := enters_of Try.func20 (by kernel_rfl) rfl
  have := AnyQ.slices_IndexFunc Try.laysIndexFunc 4 Try.isAgg29 Try.sizeOf29 enc enc_length (fun y => decide (y.time < now - 5)) 20 #[.pointer (some ⟨nb, 0, none⟩)] eg g 0 n cap zs w
    (fun W x hb => by
      have h := closure_any W x nb now hn ((hb.cell (p := ⟨nb, 0, none⟩) hnb).trans hc) (Nat.lt_of_lt_of_le hnb hb.size)
      exact h.mono fun e w' ⟨he, hw⟩ => ⟨he, by subst hw; exact hb.alloc hb.size _⟩)
    (by omega) hbig hrow.lt (fun j hj i v hi => by
      have hi4 : i < 4 := by have := (List.getElem?_eq_some_iff.1 hi).1; rwa [enc_length] at this
      rw [Nat.zero_add, hrow.cell hj hi4]; exact hi)
  rw [List.take_of_length_le (by omega)] at this
  exact this


/-! ### a run of stores into one block -/
theorem heap_setCells (b : Nat) (e : TypeId) : ∀ (vs : List Value) (o : Nat) (w : World) (cur : Array Value), w.heap[b]? = some (.cells cur e (0, 0)) →
    ∃ cur' : Array Value, (w.setCells b o vs).heap[b]? = some (.cells cur' e (0, 0)) ∧ cur'.size = cur.size ∧ ∀ m, m ≤ o → cur'.toList.take m = cur.toList.take m
  | [], o, w, cur, h => ⟨cur, h, rfl, fun _ _ => rfl⟩
  | v :: vs, o, w, cur, h => by
    have h1 := heap_setCell_same w b o cur e v h
    obtain ⟨cur', h2, h3, h4⟩ := heap_setCells b e vs (o + 1) _ _ h1
    refine ⟨cur', h2, by simpa using h3, fun m hm => ?_⟩
    rw [h4 m (by omega), Array.toList_setIfInBounds, List.take_set]
    apply List.set_eq_of_length_le
    rw [List.length_take]; omega

theorem grownBy_setCells (b : Nat) : ∀ (vs : List Value) (o : Nat) (w : World), w.grownBy (w.setCells b o vs) (some b)
  | [], o, w => ⟨rfl, rfl, rfl, Nat.le_refl _, fun _ _ _ => rfl⟩
  | v :: vs, o, w => by
    have h := grownBy_setCells b vs (o + 1) (w.setCell ⟨b, o, none⟩ v)
    have hs : (w.setCell ⟨b, o, none⟩ v).heap.size = w.heap.size := by simp [World.setCell]
    refine ⟨h.os, h.tape, h.output, by rw [← hs]; exact h.size, fun k hk hne => ?_⟩
    have hkb : k ≠ b := fun e => hne (by rw [e])
    exact (h.block k (by omega) hne).trans (heap_setCell_other w ⟨b, o, none⟩ k v hkb)

theorem run_clear_row (w : World) (g i n cap : Nat) (ty : TypeId) (l : List Au) (tl : List Value) (hrow : RowAt w g l tl) (hl : l.length = n) (hi : i < n) (hcap : n ≤ cap) :
    ∃ zs, (Builtin.clear_ #[42] ty #[.slice (some ⟨g, i * 4, none⟩) (n - i) (cap - i)]).run Try.prog w = .ok (.tuple #[]) (w.setCells g (i * 4) zs) := by
  have hz := Try.zeroValue29
  have hzc : ∀ m, (Builtin.zeroCells #[Value.string ⟨#[]⟩, .string ⟨#[]⟩, .int .i64 0, .int .i64 0] m).toList.length = m * 4 := by intro m; simp [Builtin.zeroCells]
  have hone : ∀ m, ∀ v ∈ (Builtin.zeroCells #[Value.string ⟨#[]⟩, .string ⟨#[]⟩, .int .i64 0, .int .i64 0] m).toList, v.oneCell' = true := by
    intro m v hv
    simp only [Builtin.zeroCells, Array.toList_map, List.mem_map] at hv
    obtain ⟨q, _, rfl⟩ := hv
    have : q % 4 < 4 := Nat.mod_lt _ (by omega)
    show (#[Value.string ⟨#[]⟩, .string ⟨#[]⟩, .int .i64 0, .int .i64 0][q % 4]!).oneCell' = true
    generalize q % 4 = r at this
    match r, this with
    | 0, _ => rfl
    | 1, _ => rfl
    | 2, _ => rfl
    | 3, _ => rfl
  refine ⟨(Builtin.zeroCells #[Value.string ⟨#[]⟩, .string ⟨#[]⟩, .int .i64 0, .int .i64 0] (n - i)).toList, ?_⟩
  have hst := run_storeCells_cells (P := Try.prog) g (i * 4) _ 0 w (fun j hj => by
      rw [hzc] at hj
      have hq : j / 4 + i < l.length := by omega
      have := hrow.cell (j := j / 4 + i) (c := j % 4) hq (Nat.mod_lt _ (by omega))
      rw [show (j / 4 + i) * 4 + j % 4 = i * 4 + j by omega] at this
      rw [Nat.add_zero, this]
      simp only [enc]
      have h4 : j % 4 < 4 := Nat.mod_lt _ (by omega)
      generalize j % 4 = r at h4
      match r, h4 with
      | 0, _ => rfl
      | 1, _ => rfl
      | 2, _ => rfl
      | 3, _ => rfl) (fun j _ => hrow.free _) (hone (n - i))
  simp only [Nat.add_zero] at hst
  obtain ⟨m, hm⟩ : ∃ m, n - i = m + 1 := ⟨n - i - 1, by omega⟩
  rw [hm] at hst ⊢
  simp [Builtin.clear_, run_underlying Try.underlying42, hz, Value.cells, hst]

theorem indexFunc_nil (w : World) (cap : Nat) (fv : Value) : Calls Try.prog 22 #[.slice none 0 cap, fv] w fun e w' => e = .returned (.int .i64 (-1)) ∧ w = w' := by
  go_enter Try.func22, Try.ntmps22
  go_wp2
  go_loopg [5, 8] 0 (fun _ _ s8 wr => s8 = .int .i64 0 ∧ wr = w)
  case atStart => exact ⟨rfl, rfl⟩
  case round =>
    obtain ⟨rfl, rfl⟩ := hrel
    go_wp2
    go_ret
    exact ⟨rfl, rfl⟩

theorem delete_nil (w : World) (cap : Nat) (fv : Value) : Calls Try.prog 19 #[.slice none 0 cap, fv] w fun e w' => e = .returned (.slice none 0 cap) ∧ w = w' := by
  go_enter Try.func19, Try.ntmps19
  go_wp2_with (go_at_call 22; refine (indexFunc_nil _ _ _).mono ?_; rintro e w' ⟨rfl, rfl⟩)
  go_ret
  exact ⟨rfl, rfl⟩


/-- The loop's state: of the first j elements the kept ones lie at the begin, what comes lies where it lay. -/
structure DelInv (now : Int) (zs : List Au) (i j : Nat) (dk : List Au) : Prop where
  len : dk.length = zs.length
  lt : i < j
  le : j ≤ zs.length
  low : dk.take i = (zs.take j).filter (keep now)
  high : dk.drop j = zs.drop j

theorem DelInv.get {now : Int} {zs : List Au} {i j : Nat} {dk : List Au} (h : DelInv now zs i j dk) (hj : j < zs.length) : dk[j]! = zs[j]! := by
  have e := congrArg (fun l => l[0]?) h.high
  simp only [List.getElem?_drop, Nat.add_zero] at e
  simp [e, List.getElem!_eq_getElem?_getD]

theorem filter_take_succ (p : Au → Bool) (zs : List Au) (j : Nat) (hj : j < zs.length) : (zs.take (j + 1)).filter p = (zs.take j).filter p ++ (if p zs[j]! then [zs[j]!] else []) := by
  rw [List.take_succ_eq_append_getElem hj, List.filter_append, getElem!_pos zs j hj]
  congr 1
  cases h : p zs[j] <;> simp [h]

theorem DelInv.keep_ {now : Int} {zs : List Au} {i j : Nat} {dk : List Au} (h : DelInv now zs i j dk) (hj : j < zs.length) (hk : keep now zs[j]! = true) : DelInv now zs (i + 1) (j + 1) (dk.set i zs[j]!) := by
  have hl := h.len; have hij := h.lt
  refine ⟨by simp [hl], by omega, hj, ?_, ?_⟩
  · rw [filter_take_succ _ _ _ hj, if_pos hk, ← h.low, List.take_succ_eq_append_getElem (by simp; omega), List.take_set, List.getElem_set_self]
    rw [List.set_eq_of_length_le (by rw [List.length_take]; omega)]
  · rw [List.drop_set_of_lt (by omega)]
    have e := congrArg (List.drop 1) h.high
    simpa [List.drop_drop, Nat.add_comm] using e

theorem DelInv.skip {now : Int} {zs : List Au} {i j : Nat} {dk : List Au} (h : DelInv now zs i j dk) (hj : j < zs.length) (hk : keep now zs[j]! = false) : DelInv now zs i (j + 1) dk := by
  have hij := h.lt
  refine ⟨h.len, by omega, hj, ?_, ?_⟩
  · rw [filter_take_succ _ _ _ hj, if_neg (by rw [hk]; decide), List.append_nil, h.low]
  · have e := congrArg (List.drop 1) h.high
    simpa [List.drop_drop, Nat.add_comm] using e

theorem DelInv.start {now : Int} {zs : List Au} {k : Nat} (hk : k < zs.length) (hall : ∀ j, j < k → keep now zs[j]! = true) (hd : keep now zs[k]! = false) : DelInv now zs k (k + 1) zs := by
  refine ⟨rfl, by omega, hk, ?_, rfl⟩
  rw [filter_take_succ _ _ _ hk, if_neg (by rw [hd]; decide), List.append_nil]
  symm
  rw [List.filter_eq_self]
  intro a ha
  obtain ⟨j, hj, rfl⟩ := List.mem_iff_getElem.1 ha
  have hj' : j < k := by rw [List.length_take] at hj; omega
  have := hall j hj'
  rw [getElem!_pos zs j (by omega)] at this
  simpa using this

end Go.Proofs.Ytjikekfjhfcdpaa
