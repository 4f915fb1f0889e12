/-
  Rows of bytes that a text was turned into; name.Canon, legateref5.Canon.
-/
import Derived.Test.YtnifihnlmanpkaaDoorSplit
import Derived.Laws.IdiomStrings
set_option linter.unusedVariables false
set_option linter.unusedSimpArgs false
namespace Go.Proofs.YtnifihnlmanpkaaDoor
open Go Go.RowKit Go.Lib Go.Shelf

def bigB (b : UInt8) : UInt8 := if 97 ≤ b.toNat ∧ b.toNat ≤ 122 then b - 32 else b
def canonOf (s : Str) : Str := s.map bigB

/-- Block g holds the bytes l, none of them frozen. -/
def BytesAt (w : World) (g : Nat) (l : Str) : Prop := ∃ cur n, w.heap[g]? = some (.cells cur 5 (n, n + 1)) ∧ n = cur.size ∧ l.length ≤ n ∧ ∀ j (hj : j < l.length), cur[j]? = some (.int .u8 ((l[j]'hj).toNat : Int))

theorem BytesAt.cell {w : World} {g : Nat} {l : Str} (h : BytesAt w g l) {j : Nat} (hj : j < l.length) : w.cell? ⟨g, j, none⟩ = some (.int .u8 ((l[j]'hj).toNat : Int)) := by
  obtain ⟨cur, n, h1, h2, h3, h4⟩ := h
  have : w.cell? ⟨g, j, none⟩ = cur[j]? := by simp [World.cell?, h1]
  rw [this, h4 j hj]
theorem BytesAt.frozen {w : World} {g : Nat} {l : Str} (h : BytesAt w g l) {j : Nat} (hj : j < l.length) : w.frozen? ⟨g, j, none⟩ = false := by
  obtain ⟨cur, n, h1, h2, h3, h4⟩ := h
  simp only [World.frozen?, h1]
  simp
  omega
theorem BytesAt.set {w : World} {g : Nat} {l : Str} (h : BytesAt w g l) {i : Nat} (hi : i < l.length) (b : UInt8) : BytesAt (w.setCell ⟨g, i, none⟩ (.int .u8 (b.toNat : Int))) g (l.set i b) := by
  obtain ⟨cur, n, h1, h2, h3, h4⟩ := h
  refine ⟨cur.setIfInBounds i (.int .u8 (b.toNat : Int)), n, ?_, by simp [h2], by simpa using h3, ?_⟩
  · rw [Sort.setCell_eq]
    simp [Sort.mapBlock, Array.getElem?_modify, h1, Sort.onCells]
  · intro j hj
    have hj' : j < l.length := by simpa using hj
    rw [Array.getElem?_setIfInBounds]
    by_cases e : i = j
    · subst e
      rw [if_pos rfl, if_pos (by omega)]
      simp
    · rw [if_neg e, h4 j hj']
      simp [List.getElem_set_ne e]
theorem BytesAt.below {w w' : World} {g : Nat} {l : Str} (h : BytesAt w g l) (hb : Below w.heap.size w w') : BytesAt w' g l := by
  obtain ⟨cur, n, h1, h2⟩ := h
  have hlt : g < w.heap.size := (Array.getElem?_eq_some_iff.1 h1).1
  exact ⟨cur, n, (hb.block g hlt).trans h1, h2⟩
theorem BytesAt.drew {w : World} {g : Nat} {l : Str} (h : BytesAt w g l) (q : Nat) : BytesAt (w.drewN q) g l := h

theorem run_back {w : World} {g : Nat} {l : Str} (h : BytesAt w g l) (cap n : Nat) (hn : n = l.length) : (convert 28 9 (.slice (some ⟨g, 0, none⟩) n cap)).run Tryd.prog w = .ok (.string ⟨l.toArray⟩) w := by
  subst hn
  refine run_convert_bytes_back w 28 9 5 ⟨g, 0, none⟩ cap l Tryd.underlying28 Tryd.underlying5 Tryd.underlying9 (fun j hj => ?_)
  have hadd : (⟨g, 0, none⟩ : Addr).add j = ⟨g, j, none⟩ := by unfold Addr.add; split <;> simp_all
  rw [hadd]
  exact h.cell hj

theorem wpList_bytes {ops : Array Oper} {rest : List Oper} {o : Oper} {a : Act} {Q : Exit → Act → World → Prop} (w : World) (hgd : o.guard = none) (x : Operand) (ho : o.op = .convert 9 28 x) (s : ByteArray) (hx : a.eval x = .string s)
    (h : ∀ cap w', BytesAt w' w.heap.size s.data.toList → Below w.heap.size w w' → w.heap.size < w'.heap.size → wpList Tryd.prog ops Q rest (a.put o.dst (.slice (some ⟨w.heap.size, 0, none⟩) s.size cap)) w') : wpList Tryd.prog ops Q (o :: rest) a w := by
  refine wpList_plain hgd fun K' hK' => ?_
  have hrun := run_bytes_of_string (P := Tryd.prog) w 9 28 5 s Tryd.underlying9 Tryd.underlying28 Tryd.underlying5
  unfold Oper.wp
  simp only [execOp, ho, hx, hrun, Sem.run_bind, Sem.run_pure, Result.andThen_ok]
  refine hK' _ _ (h _ _ ?_ ?_ ?_)
  · refine ⟨_, _, heap_alloc_new w.drew _, rfl, ?_, fun j hj => ?_⟩
    · have e : s.data.toList.length = s.size := rfl
      rw [e]
      unfold bytesRow
      rw [Array.size_append, Array.size_map]
      have e2 : s.data.size = s.size := rfl
      omega
    · have hj' : j < s.data.size := hj
      rw [bytesRow_at s _ j hj']
      rfl
  · exact ((Below.refl _ w).drew).alloc (Nat.le_refl _) _
  · show w.heap.size < (w.heap.push _).size
    rw [Array.size_push]
    omega

set_option maxHeartbeats 1000000 in
theorem canon_any (w : World) (s : ByteArray) (hs : s.size < 90000) :
    Calls Tryd.prog 18 #[.string s] w fun e w' => e = .returned (.string ⟨(canonOf s.data.toList).toArray⟩) ∧ Below w.heap.size w w' := by
  have hsl : s.data.toList.length = s.size := rfl
  go_enter Tryd.func18, Tryd.ntmps18
  go_wp2_with (refine wpList_bytes _ rfl (.tmp 6) rfl s rfl ?_; intro cap w1 hB1 hb1 hs1)
  go_loopg [10] s.size (fun gg s10 wr => ∃ i : Nat, i ≤ s.size ∧ s.size - i ≤ gg ∧ s10 = .int .i64 i ∧ Aside (BytesAt wr w.heap.size (canonOf (s.data.toList.take i) ++ s.data.toList.drop i)) ∧ Aside (Below w.heap.size w wr))
  case atStart => exact ⟨0, by omega, by omega, rfl, by show BytesAt w1 w.heap.size (canonOf (s.data.toList.take 0) ++ s.data.toList.drop 0); simpa [canonOf] using hB1, hb1⟩
  case round =>
    obtain ⟨i, hi, hgg, rfl, HA, HB⟩ := hrel
    by_cases hlt : i < s.size
    · have hltz : (i : Int) < (s.size : Int) := by omega
      have hlen : (canonOf (s.data.toList.take i) ++ s.data.toList.drop i).length = s.size := by simp [canonOf]; omega
      have hget : ((canonOf (s.data.toList.take i) ++ s.data.toList.drop i)[i]'(by rw [hlen]; exact hlt)) = s[i]'hlt := by
        rw [List.getElem_append_right (by simp [canonOf]; omega)]
        have e : s.data.toList[i]'hlt = s[i]'hlt := rfl
        rw [← e, List.getElem_drop]
        congr 1
        simp [canonOf]
        omega
      have c0 := HA.out.cell (j := i) (by rw [hlen]; exact hlt)
      have f0 := HA.out.frozen (j := i) (by rw [hlen]; exact hlt)
      rw [hget] at c0
      obtain ⟨y, hy⟩ : ∃ y, s[i]'hlt = y := ⟨_, rfl⟩
      rw [hy] at c0
      have hy8 : (y.toNat : Int) < 256 := by have := y.toNat_lt; omega
      have hstep : canonOf (s.data.toList.take (i + 1)) ++ s.data.toList.drop (i + 1) = (canonOf (s.data.toList.take i) ++ s.data.toList.drop i).set i (bigB y) := by
        rw [take_next s i hlt, hy]
        have hd : s.data.toList.drop i = s[i]'hlt :: s.data.toList.drop (i + 1) := by
          have e : s.data.toList[i]'hlt = s[i]'hlt := rfl
          rw [← e]
          exact List.drop_eq_getElem_cons hlt
        have hlc : (canonOf (s.data.toList.take i)).length = i := by simp [canonOf]; omega
        rw [hd, List.set_append_right _ _ (by omega), hlc, Nat.sub_self]
        simp [canonOf]
      have HST := Lib.hid hstep
      have hs0 : bigB y = y → (canonOf (s.data.toList.take i) ++ s.data.toList.drop i).set i (bigB y) = canonOf (s.data.toList.take i) ++ s.data.toList.drop i := fun hb => by
        rw [hb, ← hy, ← hget]
        exact List.set_getElem_self _
      have HS0 := Lib.hid hs0
      clear hstep hs0 hget hlen
      by_cases q1 : (97 : Int) ≤ (y.toNat : Int)
      · by_cases q2 : (y.toNat : Int) ≤ 122
        · have hval : (y.toNat : Int) - 97 + 65 = ((bigB y).toNat : Int) := by
            unfold bigB
            rw [if_pos ⟨by omega, by omega⟩, UInt8.toNat_sub_of_le y 32 (by rw [UInt8.le_iff_toNat_le]; show 32 ≤ y.toNat; omega)]
            have : (32 : UInt8).toNat = 32 := rfl
            omega
          have HV := Lib.hid hval
          clear hval
          go_wp2
          go_roundg (s.size - (i + 1))
          case measure => omega
          case rel =>
            refine ⟨i + 1, by omega, by omega, by go_num, ?_, HB.out.setCell (Nat.le_refl _) _⟩
            rw [HST.out, HV.out]
            exact HA.out.set (by simp [canonOf]; omega) (bigB y)
        · have hbig : bigB y = y := by unfold bigB; rw [if_neg (by omega)]
          have hsame := HS0.out hbig
          have HSM := Lib.hid hsame
          clear hbig hsame
          go_wp2
          go_roundg (s.size - (i + 1))
          case measure => omega
          case rel => exact ⟨i + 1, by omega, by omega, by go_num, by rw [HST.out, HSM.out]; exact HA.out, HB.out⟩
      · have hbig : bigB y = y := by unfold bigB; rw [if_neg (by omega)]
        have hsame := HS0.out hbig
        have HSM := Lib.hid hsame
        clear hbig hsame
        go_wp2
        go_roundg (s.size - (i + 1))
        case measure => omega
        case rel => exact ⟨i + 1, by omega, by omega, by go_num, by rw [HST.out, HSM.out]; exact HA.out, HB.out⟩
    · have hltz : ¬ (i : Int) < (s.size : Int) := by omega
      have hi' : i = s.size := by omega
      subst hi'
      have hA : BytesAt wr w.heap.size (canonOf s.data.toList) := by
        have h := HA.out
        have e1 : s.data.toList.take s.size = s.data.toList := List.take_of_length_le (Nat.le_refl s.data.toList.length)
        have e2 : s.data.toList.drop s.size = [] := List.drop_of_length_le (Nat.le_refl s.data.toList.length)
        rw [e1, e2, List.append_nil] at h
        exact h
      have hback := run_back hA cap s.size (by simp [canonOf])
      clear hA
      go_wp2
      go_ret
      exact ⟨rfl, HB.out⟩
end Go.Proofs.YtnifihnlmanpkaaDoor
