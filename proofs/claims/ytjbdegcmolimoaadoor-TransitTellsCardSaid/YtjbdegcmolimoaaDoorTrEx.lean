/-
  transit.expander: adds, fills.
-/
import Derived.Test.YtjbdegcmolimoaaDoorTrReal
import Derived.Test.YtjbdegcmolimoaaDoorUnders
set_option linter.unusedVariables false
set_option linter.unusedSimpArgs false
namespace Go.Proofs.YtjbdegcmolimoaaDoor
open Go Go.RowKit Go.Lib Go.Shelf

/-- append of a text, and which blocks it may have touched. -/
theorem wpList_append_far {ops : Array Oper} {rest : List Oper} {o : Oper} {a : Act} {Q : Exit → Act → World → Prop} (w : World) (hgd : o.guard = none) (s x : Operand)
    (ho : o.op = .call { callee := .builtin .append, args := #[s, x], argTypes := #[24, 24] }) (base : Nat) (ad : Option Addr) (n c : Nat) (l : List Str) (hs : a.eval s = .slice ad n c) (hown : w.ownsRow base 9 1 (.slice ad n c) n (strs l))
    (blk : Nat) (y : Str) (hx : a.eval x = .slice (some ⟨blk, 0, none⟩) 1 1) (hblk : w.heap[blk]? = some (.cells #[.string ⟨y.toArray⟩] 9 (0, 0))) (hn : n ≤ 100000) (hbase : base ≤ w.heap.size)
    (h : ∀ g cap w', w'.ownsRow base 9 1 (.slice (some ⟨g, 0, none⟩) (n + 1) cap) (n + 1) (strs (l ++ [y])) → Below base w w' → w.grownBy w' (Value.slice ad n c).ownBlock → ((Value.slice ad n c).ownBlock = some g ∨ g = w.heap.size) → wpList Tryd.prog ops Q rest (a.put o.dst (.slice (some ⟨g, 0, none⟩) (n + 1) cap)) w') : wpList Tryd.prog ops Q (o :: rest) a w := by
  have hI := info_str
  rw [Option.map_eq_some_iff] at hI
  obtain ⟨i0, hi, he⟩ := hI
  simp only [Prod.mk.injEq] at he
  refine wpList_append_lies w hgd s x 24 ho base 9 i0 (.string ⟨#[]⟩) 1 16 Tryd.underlying24 hi he.1 he.2.1 he.2.2 rfl (by decide) (.slice ad n c) n (strs l) hs hown ⟨blk, 0, none⟩ 1 1 [.string ⟨y.toArray⟩] hx rfl (World.news_of_block (cs := #[.string ⟨y.toArray⟩]) hblk) (fun u hu => by simp at hu; subst hu; rfl) (by decide) (by unfold maxLen; omega) (by omega) hbase _ rfl ?_
  intro g cap w' hown' hgrow hat hlt
  refine h g cap w' ?_ ((Below.refl base w).grown hgrow hbase (fun k hk => (hown.lt k hk).1)) hgrow hat
  rw [show strs (l ++ [y]) = strs l ++ [.string ⟨y.toArray⟩] by simp [strs, strv]]
  exact hown'

/-- An expander in block g: its row of realms in blocks from rb on. -/
structure Ex (w : World) (g rb : Nat) (ad : Option Addr) (c : Nat) (l : List Str) (p : ByteArray) (nl : Bool) : Prop where
  own : w.ownsRow rb 9 1 (.slice ad l.length c) l.length (strs l)
  c0 : w.cell? ⟨g, 0, none⟩ = some (.slice ad l.length c)
  c1 : w.cell? ⟨g, 1, none⟩ = some (.string p)
  c2 : w.cell? ⟨g, 2, none⟩ = some (.bool nl)
  fz : ∀ k, w.frozen? ⟨g, k, none⟩ = false
  lo : g < rb
  hi : rb ≤ w.heap.size
/-- Nothing below rb has been touched but block g. -/
structure Keep (g rb : Nat) (w w' : World) : Prop where
  bel : Below g w w'
  blk : ∀ b, b < rb → b ≠ g → w'.heap[b]? = w.heap[b]?

theorem Keep.refl (g rb : Nat) (w : World) : Keep g rb w w := ⟨Below.refl _ _, fun _ _ _ => rfl⟩
theorem Keep.trans {g rb : Nat} {a b c : World} (h : Keep g rb a b) (k : Keep g rb b c) : Keep g rb a c := ⟨h.bel.trans k.bel, fun x h1 h2 => (k.blk x h1 h2).trans (h.blk x h1 h2)⟩
theorem Keep.of {g rb : Nat} {w w' : World} (h : Below rb w w') (hg : g < rb) : Keep g rb w w' := ⟨h.mono (by omega), fun b h1 _ => h.block b h1⟩
theorem Keep.setCell {g rb : Nat} {a w : World} (h : Keep g rb a w) (k : Nat) (v : Value) : Keep g rb a (w.setCell ⟨g, k, none⟩ v) :=
  ⟨h.bel.setCell (Nat.le_refl _) _, fun b h1 h2 => (Below.heap_setCell _ _ _ _ h2).trans (h.blk b h1 h2)⟩
theorem Keep.alloc {g rb : Nat} {a w : World} (h : Keep g rb a w) (hg : g < rb) (hr : rb ≤ w.heap.size) (o : Obj) : Keep g rb a (w.alloc o) := h.trans (Keep.of ((Below.refl _ _).alloc hr _) hg)
theorem Keep.at {g rb : Nat} {w w' : World} (h : Keep g rb w w') {ad : Option Addr} {n : Nat} {l : List Str} (hA : At w ad n l) (hf : 0 < n → ∀ b off, ad = some ⟨b, off, none⟩ → b < rb ∧ b ≠ g) (hs : w.heap.size ≤ w'.heap.size) : At w' ad n l := by
  refine ⟨hA.len, fun hn => ?_⟩
  obtain ⟨b, off, e, hlt, hc⟩ := hA.cell hn
  obtain ⟨h1, h2⟩ := hf hn b off e
  exact ⟨b, off, e, Nat.lt_of_lt_of_le hlt hs, fun j hj => (World.cell?_of_block (a := ⟨b, off + j, none⟩) (h.blk b h1 h2)).trans (hc j hj)⟩
theorem Glob.belowG {w w' : World} {g : Nat} (h : Glob w) (hb : Below g w w') (hg : 0 < g) : Glob w' := by
  obtain ⟨m, hm⟩ := h
  exact ⟨m, (hb.cell (p := ⟨0, 0, none⟩) hg).trans hm⟩

variable {w w' : World} {g rb : Nat} {ad : Option Addr} {c : Nat} {l : List Str} {p : ByteArray} {nl : Bool}

theorem Ex.below (h : Ex w g rb ad c l p nl) (hb : Below w.heap.size w w') : Ex w' g rb ad c l p nl := by
  have hg : g < w.heap.size := Nat.lt_of_lt_of_le h.lo h.hi
  exact ⟨own_below h.own hb, (hb.cell (p := ⟨g, 0, none⟩) hg).trans h.c0, (hb.cell (p := ⟨g, 1, none⟩) hg).trans h.c1, (hb.cell (p := ⟨g, 2, none⟩) hg).trans h.c2, fun k => (hb.frozen (p := ⟨g, k, none⟩) hg).trans (h.fz k), h.lo, Nat.le_trans h.hi hb.size⟩
theorem size_setCell (w : World) (b o : Nat) (v : Value) : (w.setCell ⟨b, o, none⟩ v).heap.size = w.heap.size := by
  rw [Sort.setCell_eq]
  simp [Sort.mapBlock]
theorem Ex.setNull (h : Ex w g rb ad c l p nl) (b : Bool) : Ex (w.setCell ⟨g, 2, none⟩ (.bool b)) g rb ad c l p b :=
  ⟨ownsRow_setCell_below h.own h.lo _, (World.cell?_setCell_other _ _ _ _ (by simp)).trans h.c0, (World.cell?_setCell_other _ _ _ _ (by simp)).trans h.c1, World.cell?_setCell_same _ _ _ h.c2, fun k => (World.frozen?_setCell _ _ _ _).trans (h.fz k), h.lo, by rw [size_setCell]; exact h.hi⟩
theorem Ex.setAhead (h : Ex w g rb ad c l p nl) (q : ByteArray) : Ex (w.setCell ⟨g, 1, none⟩ (.string q)) g rb ad c l q nl :=
  ⟨ownsRow_setCell_below h.own h.lo _, (World.cell?_setCell_other _ _ _ _ (by simp)).trans h.c0, World.cell?_setCell_same _ _ _ h.c1, (World.cell?_setCell_other _ _ _ _ (by simp)).trans h.c2, fun k => (World.frozen?_setCell _ _ _ _).trans (h.fz k), h.lo, by rw [size_setCell]; exact h.hi⟩
/-- A new row has been laid, and is stored. -/
theorem Ex.setRow (h : Ex w g rb ad c l p nl) (hb : Below rb w w') {ad' : Option Addr} {c' : Nat} {m : List Str} (ho : w'.ownsRow rb 9 1 (.slice ad' m.length c') m.length (strs m)) : Ex (w'.setCell ⟨g, 0, none⟩ (.slice ad' m.length c')) g rb ad' c' m p nl := by
  have h0 := (hb.cell (p := ⟨g, 0, none⟩) h.lo).trans h.c0
  exact ⟨ownsRow_setCell_below ho h.lo _, World.cell?_setCell_same _ _ _ h0, (World.cell?_setCell_other _ _ _ _ (by simp)).trans ((hb.cell (p := ⟨g, 1, none⟩) h.lo).trans h.c1), (World.cell?_setCell_other _ _ _ _ (by simp)).trans ((hb.cell (p := ⟨g, 2, none⟩) h.lo).trans h.c2), fun k => (World.frozen?_setCell _ _ _ _).trans ((hb.frozen (p := ⟨g, k, none⟩) h.lo).trans (h.fz k)), h.lo, by rw [size_setCell]; exact Nat.le_trans h.hi hb.size⟩

/-- A row that the expander's own does not touch. -/
def Far (g : Nat) (ad adr : Option Addr) : Prop := ∀ b off, adr = some ⟨b, off, none⟩ → b ≠ g ∧ (Value.slice ad 0 0).ownBlock ≠ some b
theorem own_block (ad : Option Addr) (n c : Nat) : (Value.slice ad n c).ownBlock = (Value.slice ad 0 0).ownBlock := by cases ad <;> rfl

def ExPost (w w' : World) (g rb : Nat) (l : List Str) (p : ByteArray) (nl : Bool) (e : Ending) : Prop := e = .returned (.tuple #[]) ∧ ∃ ad' c', Ex w' g rb ad' c' l p nl ∧ Keep g rb w w'

theorem addsOf_next {l rs : List Str} {i : Nat} (h : i < rs.length) : addsOf l (rs.take (i + 1)) = addOf (addsOf l (rs.take i)) rs[i]! := by
  rw [← List.take_append_getElem h, addsOf_append, getElem!_pos rs i h]
  rfl

set_option maxHeartbeats 2000000 in
theorem adds_any (adr : Option Addr) (m cr : Nat) (rs : List Str) (hx : Ex w g rb ad c l p nl) (hA : At w adr m rs) (hf : 0 < m → Far g ad adr) (hm : l.length + m ≤ 10000) :
    Calls Tryd.prog 32 #[.pointer (some ⟨g, 0, none⟩), .slice adr m cr] w fun e w' => ExPost w w' g rb (addsOf l rs) p nl e := by
  have hl := hA.len
  have HX := Lib.hid hx
  have HA := Lib.hid hA
  have HF := Lib.hid hf
  have HL := Lib.hid hl
  clear hx hA hf hl
  go_enter Tryd.func32, Tryd.ntmps32
  go_wp2
  go_loopg [8] m (fun gg s8 wr => ∃ (i : Nat) (ad' : Option Addr) (c' : Nat), i ≤ m ∧ m - i ≤ gg ∧ s8 = .int .i64 i ∧ Aside (Ex wr g rb ad' c' (addsOf l (rs.take i)) p nl) ∧ Aside (At wr adr m rs) ∧ Aside (0 < m → Far g ad' adr) ∧ Aside (Keep g rb w wr))
  case atStart => exact ⟨0, ad, c, by omega, by omega, rfl, HX.out, HA.out, HF.out, Keep.refl _ _ _⟩
  case round =>
    obtain ⟨i, ad', c', hi, hgg, rfl, HX2, HA2, HF2, HK⟩ := hrel
    by_cases hlt : i < m
    · have hltz : (i : Int) < (m : Int) := by omega
      obtain ⟨bk, off, hbk, hbl, hc⟩ := HA2.out.cell (by omega)
      obtain ⟨x, hxx⟩ : ∃ x : ByteArray, x = ⟨rs[i]!.toArray⟩ := ⟨_, rfl⟩
      have hxd : x.data.toList = rs[i]! := by rw [hxx]
      have kx := hc i hlt
      rw [← hxx] at kx
      have HXD := Lib.hid hxd
      have HBK := Lib.hid hbk
      have hnext : addsOf l (rs.take (i + 1)) = addOf (addsOf l (rs.take i)) x.data.toList := by rw [hxd]; exact addsOf_next (by rw [HL.out]; omega)
      have HN := Lib.hid hnext
      have hlen := (addsOf_len l (rs.take i)).2
      rw [List.length_take] at hlen
      obtain ⟨U, hU⟩ : ∃ U, U = addsOf l (rs.take i) := ⟨_, rfl⟩
      rw [← hU] at HX2 hlen HN
      have hx2 := HX2.out
      have k0 := hx2.c0
      have fz := hx2.fz 0
      subst hbk
      clear hxx hxd hc hnext hU
      by_cases hin : x.data.toList ∈ U
      · have hd : decide (x.data.toList ∈ U) = true := decide_eq_true hin
        have hold := addOf_old hin
        have HO := Lib.hid hold
        clear hin hold
        go_wp2_with (go_at_call 41; refine (contains_any _ _ _ _ U x.data.toList (At.owns HX2.out.own) (by omega)).mono ?_; rintro e w2 ⟨rfl, h2⟩; replace h2 := h2.symm; subst h2; rw [hd])
        go_roundg (m - (i + 1))
        case measure => omega
        case rel => exact ⟨i + 1, ad', c', by omega, by omega, by go_num, by rw [HN.out, HO.out]; exact HX2.out, HA2.out, HF2.out, HK.out⟩
      · have hd : decide (x.data.toList ∈ U) = false := decide_eq_false hin
        have hnew := addOf_new hin
        have HO := Lib.hid hnew
        clear hin hnew
        go_wp2_with (first
          | (go_at_call 41; refine (contains_any _ _ _ _ U x.data.toList (At.owns HX2.out.own) (by omega)).mono ?_; rintro e w2 ⟨rfl, h2⟩; replace h2 := h2.symm; subst h2; rw [hd])
          | (at_builtin; refine wpList_append_far _ rfl (.tmp 23) (.tmp 25) rfl rb ad' U.length c' U rfl (HX2.out.own.alloc _) wr.heap.size x.data.toList rfl (heap_alloc_new _ _) (by omega) (Nat.le_trans HX2.out.hi (by simp)) ?_; intro g7 cap7 w7 hown7 hb7 hgrow7 hor7; have k0' := (hb7.cell (p := ⟨g, 0, none⟩) HX2.out.lo).trans ((((Below.refl _ wr).alloc (Nat.le_refl _) _).cell (p := ⟨g, 0, none⟩) (Nat.lt_of_lt_of_le HX2.out.lo HX2.out.hi)).trans k0); have fz' := (hb7.frozen (p := ⟨g, 0, none⟩) HX2.out.lo).trans ((((Below.refl _ wr).alloc (Nat.le_refl _) _).frozen (p := ⟨g, 0, none⟩) (Nat.lt_of_lt_of_le HX2.out.lo HX2.out.hi)).trans fz)))
        go_roundg (m - (i + 1))
        case measure => omega
        case rel =>
          have hal : Below wr.heap.size wr (wr.alloc (.cells #[.string ⟨x.data.toList.toArray⟩] 9)) := (Below.refl _ wr).alloc (Nat.le_refl _) _
          have hb8 : Below rb wr w7 := (hal.mono HX2.out.hi).trans hb7
          have hU1 : (U ++ [x.data.toList]).length = U.length + 1 := by simp
          have hx8 := HX2.out.setRow (m := U ++ [x.data.toList]) (ad' := some ⟨g7, 0, none⟩) (c' := cap7) hb8 (by rw [hU1]; exact hown7)
          rw [hU1] at hx8
          refine ⟨i + 1, some ⟨g7, 0, none⟩, cap7, by omega, by omega, by go_num, by rw [HN.out, HO.out]; exact hx8, ?_, ?_, HK.out.trans ((Keep.of hb8 HX2.out.lo).setCell _ _)⟩
          · refine ⟨HA2.out.len, fun hm => ?_⟩
            obtain ⟨b2, o2, e2, hlt2, hc2⟩ := HA2.out.cell hm
            obtain ⟨f1, f2⟩ := HF2.out hm b2 o2 e2
            refine ⟨b2, o2, e2, ?_, fun j hj => ?_⟩
            · rw [size_setCell]
              exact Nat.lt_of_lt_of_le hlt2 hb8.size
            · refine (World.cell?_setCell_far _ _ _ _ (fun e => f1 e.symm)).trans ?_
              refine hgrow7.cell ((hal.cell (p := ⟨b2, o2 + j, none⟩) hlt2).trans (hc2 j hj)) ?_
              rw [own_block]
              exact fun e => f2 e.symm
          · intro hm b2 o2 e2
            obtain ⟨f1, f2⟩ := HF2.out hm b2 o2 e2
            refine ⟨f1, ?_⟩
            show some g7 ≠ some b2
            rw [own_block] at hor7
            rcases hor7 with h | h
            · rw [← h]; exact f2
            · obtain ⟨b3, o3, e3, hlt3, _⟩ := HA2.out.cell hm
              rw [e2] at e3
              simp only [Option.some.injEq, Addr.mk.injEq] at e3
              intro e
              simp only [Option.some.injEq] at e
              have : (wr.alloc (.cells #[.string ⟨x.data.toList.toArray⟩] 9)).heap.size = wr.heap.size + 1 := by simp
              have h' : g7 = wr.heap.size + 1 := h.trans this
              omega
    · have him : i = m := by omega
      subst him
      have htake : rs.take i = rs := by rw [← HL.out, List.take_length]
      rw [htake] at HX2
      clear htake
      go_wp2
      go_end0
      exact ⟨rfl, ad', c', HX2.out, HK.out⟩

theorem own_far {w : World} {base n cc : Nat} {ad2 adr : Option Addr} {m : List Str} (h : w.ownsRow base 9 1 (.slice adr n cc) n (strs m)) (hn : 0 < n) (h1 : g < base) (h2 : ∀ b, (Value.slice ad2 0 0).ownBlock = some b → b < base) : Far g ad2 adr := by
  intro b off e
  obtain ⟨g', cap, e', hb, _⟩ := World.ownsRow.form h hn
  simp only [Value.slice.injEq] at e'
  rw [e] at e'
  simp only [Option.some.injEq, Addr.mk.injEq] at e'
  refine ⟨by omega, fun h => ?_⟩
  have := h2 b h
  omega
theorem Ex.block_lt (h : Ex w g rb ad c l p nl) : ∀ b, (Value.slice ad 0 0).ownBlock = some b → b < w.heap.size := fun b hb => by
  rw [← own_block ad l.length c] at hb
  exact (h.own.lt b hb).2

theorem fills_any (cl nx : ByteArray) (hg : Glob w) (hg0 : 0 < g) (hx : Ex w g rb ad c l p nl) (hs : p.size < 90000) (sc : cl.size < 90000) (sn : nx.size < 90000) (hm : l.length ≤ 9000) :
    Calls Tryd.prog 31 #[.pointer (some ⟨g, 0, none⟩), .string cl, .string nx] w fun e w' => ExPost w w' g rb (fillOf cl.data.toList nx.data.toList l p.data.toList nl) p false e := by
  have HX := Lib.hid hx
  have HG := Lib.hid hg
  have k1 := hx.c1
  have k2 := hx.c2
  have hlt : g < w.heap.size := Nat.lt_of_lt_of_le hx.lo hx.hi
  clear hx hg
  cases nl with
  | false =>
    go_enter Tryd.func31, Tryd.ntmps31
    go_wp2
    (try simp only [Exit.inBlock, Exit.then])
    refine bodyPost_ret (results_none rfl _ _ _) rfl ?_
    exact ⟨rfl, ad, c, HX.out, Keep.refl _ _ _⟩
  | true =>
    obtain ⟨from', hfr, sf⟩ : ∃ fr : ByteArray, fr = (if p.data.toList = [] then cl else p) ∧ fr.size < 90000 := ⟨_, rfl, by split <;> assumption⟩
    have hfill : fillOf cl.data.toList nx.data.toList l p.data.toList true = addsOf l (betOf from'.data.toList nx.data.toList) := by
      unfold fillOf
      rw [if_pos rfl, hfr]
      split <;> rfl
    have HFI := Lib.hid hfill
    have hR6 := betOf_six from'.data.toList nx.data.toList
    obtain ⟨R, hR⟩ : ∃ R, R = betOf from'.data.toList nx.data.toList := ⟨_, rfl⟩
    rw [← hR] at HFI hR6
    have HR := Lib.hid hR
    clear hfill hR
    have key : ∀ e w2, BetPost w w2 from'.data.toList nx.data.toList e → ∃ ad2 c2, e = .returned (.slice ad2 R.length c2) ∧ At w2 ad2 R.length R ∧ Ex w2 g rb ad c l p true ∧ (0 < R.length → Far g ad ad2) ∧ Keep g rb w w2 := by
      rintro e w2 ⟨ad2, c2, rfl, ho2, hb2⟩
      rw [← HR.out] at ho2 ⊢
      exact ⟨ad2, c2, rfl, At.owns ho2, HX.out.below hb2, fun h0 => own_far ho2 h0 hlt HX.out.block_lt, Keep.of (hb2.mono HX.out.hi) HX.out.lo⟩
    have KEY := Lib.hid key
    clear key
    have hend : ∀ w3 ad3 c3, Ex w3 g rb ad3 c3 (addsOf l R) p true → Keep g rb w w3 → ExPost w (w3.setCell ⟨g, 2, none⟩ (.bool false)) g rb (addsOf l R) p false (.returned (.tuple #[])) := fun w3 ad3 c3 h1 h2 => ⟨rfl, ad3, c3, h1.setNull false, h2.setCell _ _⟩
    have HE := Lib.hid hend
    clear hend
    rw [HFI.out]
    by_cases h0 : p.data.toList = []
    · have hp1 := (empty_iff p).2 h0
      rw [if_pos h0] at hfr
      subst hfr
      clear h0
      go_enter Tryd.func31, Tryd.ntmps31
      go_wp2_with (first
        | (go_at_call 46; refine (between_any _ _ _ HG.out (by assumption) (by assumption)).mono ?_; intro e w2 hp; obtain ⟨ad2, c2, rfl, hA2, hx2, hf2, hk2⟩ := KEY.out _ _ hp; clear hp)
        | (go_at_call 32; refine (adds_any _ _ _ _ hx2 hA2 hf2 (by omega)).mono ?_; rintro e w3 ⟨rfl, ad3, c3, hx3, hk3⟩; have q2 := hx3.c2; have z2 := hx3.fz 2))
      go_end0
      exact HE.out _ _ _ hx3 (hk2.trans hk3)
    · have hp1 : ¬ p.toList = [] := fun e => h0 ((empty_iff p).1 e)
      have hp2 : p.toList.isEmpty = false := by simpa using hp1
      rw [if_neg h0] at hfr
      subst hfr
      clear h0
      go_enter Tryd.func31, Tryd.ntmps31
      go_wp2_with (first
        | (go_at_call 46; refine (between_any _ _ _ HG.out (by assumption) (by assumption)).mono ?_; intro e w2 hp; obtain ⟨ad2, c2, rfl, hA2, hx2, hf2, hk2⟩ := KEY.out _ _ hp; clear hp)
        | (go_at_call 32; refine (adds_any _ _ _ _ hx2 hA2 hf2 (by omega)).mono ?_; rintro e w3 ⟨rfl, ad3, c3, hx3, hk3⟩; have q2 := hx3.c2; have z2 := hx3.fz 2))
      go_end0
      exact HE.out _ _ _ hx3 (hk2.trans hk3)
end Go.Proofs.YtjbdegcmolimoaaDoor
