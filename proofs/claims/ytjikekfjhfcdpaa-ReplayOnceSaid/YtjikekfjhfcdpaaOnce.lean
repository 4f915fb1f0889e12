/-
  ReplayOnce: the walk of the law.
-/
import Derived.Test.YtjikekfjhfcdpaaPlays
import Derived.DeepKeys4
import Derived.Maps.Keyed
import Derived.Maps.Views
import Derived.Maps.OwnOps
set_option linter.unusedVariables false
set_option linter.unusedSimpArgs false
namespace Go.Proofs.Ytjikekfjhfcdpaa
open Go Go.RowKit Go.Lib Go.Shelf Go.Maps

theorem once_laid : laidOutB Try.prog = true := by kernel_rfl
theorem once_key : Keyed Try.prog 29 := Keyed.of_law (deep_law_laid once_laid (m := Try.prog.types.size + 1) (by decide +kernel) (by decide +kernel) (by decide +kernel) (by kernel_rfl))

theorem wpList_lookup_own_bool {H : Type} {P : Program} (w : World) {ops : Array Oper} {rest : List Oper} {o : Oper} {a : Act} {Q : Exit → Act → World → Prop}
    (hg : o.guard = none) (m x : Operand) (t : TypeId) (hop : o.op = Op.lookup t m x false)
    (k e : TypeId) (K : Keyed P k) (ht : P.underlying t = some (.map k e)) (he : P.underlying e = some .bool) (hz : (zeroValue e).run P w = .ok (.bool false) w) (b n : Nat) (D : DataW H)
    (hm : a.eval m = .map (some b)) (hown : w.ownsMap P k (plainElem P e) b n D) (key : Value) (kl : Lit) (hx : a.eval x = key) (hkey : keyOf P k key = some kl)
    (hK : ∀ c : Bool, D.atKey kl (.lit (.bool false)) = .lit (.bool c) → wpList P ops Q rest (a.put o.dst (.bool c)) w) :
    wpList P ops Q (o :: rest) a w := by
  refine wpList_plain hg fun K' hK' => ?_
  obtain ⟨v, ps, hrun, hv⟩ := hown.lookup K ht hz (plainElem_bool he false) hkey
  have hvv : ∃ c, v = .bool c ∧ D.atKey kl (.lit (.bool false)) = .lit (.bool c) := by
    unfold plainElem at hv
    rw [he] at hv
    cases v <;> simp at hv
    exact ⟨_, rfl, hv.1.symm⟩
  obtain ⟨c, rfl, hat⟩ := hvv
  unfold Oper.wp
  simp [execOp, hop, hm, hx, hrun, Result.andThen]
  exact hK' _ _ (hK c hat)

/-- The key of an authenticator. -/
def keyv (a : Au) : Value := .agg #[.string a.realm, .string a.name, .int .i64 a.time, .int .i64 a.seq]

theorem key_type : Try.prog.keyType 29 = true := by kernel_rfl
theorem key_one (x : Act1) (hf : ActFits x) : ∃ kl, keyOf Try.prog 29 (keyv x.a) = some kl := by
  have h1 := hf.realm; have h2 := hf.name; have h3 := hf.fits.time; have h4 := hf.fits.seq
  have hm1 : x.a.realm.size ≤ maxLen := by unfold maxLen; omega
  have hm2 : x.a.name.size ≤ maxLen := by unfold maxLen; omega
  obtain ⟨m, hm⟩ : ∃ m, Try.prog.types.size + 1 = m + 1 + 1 + 1 := ⟨Try.prog.types.size - 2, by decide +kernel⟩
  refine Option.isSome_iff_exists.1 ?_
  unfold keyOf keyv
  simp only [Try.underlying29]
  rw [if_pos (by simp [Value.formed, Try.underlying29, key_type, Try.cells29]), hm]
  simp only [Value.cells, Program.keyLits, Try.underlying29, Try.underlying27, Try.underlying9, Try.underlying3, Try.cells29, Try.cells27, Try.cells9, Try.cells3]
  simp [h3, h4, hm1, hm2, Program.keyLits, Try.underlying27, Try.underlying9, Try.underlying3, Try.cells27, Try.cells9, Try.cells3]
  rw [if_pos (by decide)]
  rfl

/-- Was it accepted before? -/
def inS (S : List Au) (a : Au) : Bool := S.any (same a)
theorem inS_iff (S : List Au) (a : Au) : inS S a = true ↔ a ∈ S := by
  simp [inS, List.any_eq_true, same_iff]

/-- What is known of those that were accepted. -/
def Inv (S L : List Au) (on : Bool) (since now : Int) : Prop := ∀ x ∈ S, x.time ≤ now + 5 ∧ (x ∈ L ∨ x.time < now - 5 ∨ (on = true ∧ x.time ≤ since + 5))

theorem inv_later {S L : List Au} {on : Bool} {since now now' : Int} (h : Inv S L on since now) (hn : now ≤ now') : Inv S L on since now' := fun x hx => by
  obtain ⟨h1, h2⟩ := h x hx
  refine ⟨by omega, ?_⟩
  rcases h2 with h2 | h2 | h2
  · exact .inl h2
  · exact .inr (.inl (by omega))
  · exact .inr (.inr h2)

theorem inv_restart {S L : List Au} {on : Bool} {since now : Int} (h : Inv S L on since now) : Inv S [] true now now := fun x hx => by
  obtain ⟨h1, h2⟩ := h x hx
  exact ⟨h1, .inr (.inr ⟨rfl, h1⟩)⟩

theorem keep_not {now : Int} {x : Au} (h : keep now x = false) : x.time < now - 5 := by
  simpa [keep] using h

theorem inv_filter {S L : List Au} {on : Bool} {since now : Int} (h : Inv S L on since now) : Inv S (L.filter (keep now)) on since now := fun x hx => by
  obtain ⟨h1, h2⟩ := h x hx
  refine ⟨h1, ?_⟩
  rcases h2 with h2 | h2
  · cases hk : keep now x
    · exact .inr (.inl (keep_not hk))
    · exact .inl (List.mem_filter.2 ⟨h2, hk⟩)
  · exact .inr h2

theorem inv_more {S L M : List Au} {on : Bool} {since now : Int} (h : Inv S L on since now) (hm : ∀ x ∈ L, x ∈ M) : Inv S M on since now := fun x hx => by
  obtain ⟨h1, h2⟩ := h x hx
  refine ⟨h1, ?_⟩
  rcases h2 with h2 | h2
  · exact .inl (hm x h2)
  · exact .inr h2

/-- Behind See, whatever it answered. -/
theorem inv_see {S L : List Au} {on : Bool} {since now : Int} (a : Au) (h : Inv S L on since now) : Inv S (seeList L on since a now) on since now := by
  unfold seeList
  split
  · exact h
  · split
    · exact inv_filter h
    · split
      · exact inv_filter h
      · exact inv_more (inv_filter h) (fun x hx => by simp [hx])

/-- Behind See that accepted. -/
theorem inv_seen {S L : List Au} {on : Bool} {since now : Int} (a : Au) (h : Inv S L on since now) (ha : seeAns L on since a now = 0) : inS S a = false ∧ Inv (a :: S) (seeList L on since a now) on since now := by
  have h0 := inv_see a h
  unfold seeAns at ha
  by_cases hs : skewed on since a now = true
  · simp [hs] at ha
  · simp only [hs, Bool.false_eq_true, if_false] at ha
    by_cases hk : (L.filter (keep now)).any (same a) = true
    · simp [hk] at ha
    · simp only [hk, Bool.false_eq_true, if_false] at ha
      by_cases hl : 8 ≤ (L.filter (keep now)).length
      · simp [hl] at ha
      · have hsk : a.time ≤ now + 5 ∧ now - 5 ≤ a.time ∧ ¬ (on = true ∧ a.time ≤ since + 5) := by
          simp only [skewed, Bool.or_eq_true, decide_eq_true_eq, Bool.and_eq_true, not_or] at hs
          refine ⟨by omega, by omega, hs.2.2⟩
        have hkp : keep now a = true := by simp [keep]; omega
        refine ⟨?_, ?_⟩
        · cases hi : inS S a
          · rfl
          · exfalso
            rcases (h a ((inS_iff S a).1 hi)).2 with h2 | h2 | h2
            · exact hk (List.any_eq_true.2 ⟨a, List.mem_filter.2 ⟨h2, hkp⟩, same_self a⟩)
            · omega
            · exact hsk.2.2 h2
        · intro x hx
          rcases List.mem_cons.1 hx with rfl | hx
          · refine ⟨hsk.1, .inl ?_⟩
            simp [seeList, hs, hk, hl]
          · exact h0 x hx

/-- What the map holds. -/
def Knows (D : DataW Unit) (S : List Au) : Prop := ∀ a kl, keyOf Try.prog 29 (keyv a) = some kl → D.atKey kl (.lit (.bool false)) = .lit (.bool (inS S a))

theorem keyv_inj {a b : Au} (h : keyv a = keyv b) : a = b := by
  obtain ⟨r, n, t, s⟩ := a
  obtain ⟨r', n', t', s'⟩ := b
  simp [keyv] at h
  obtain ⟨rfl, rfl, rfl, rfl⟩ := h
  rfl

theorem knows_nil : Knows (.map []) [] := fun a kl h => by
  simp [inS, DataW.atKey]

theorem knows_put {D : DataW Unit} {S : List Au} (hD : IsMap D) (h : Knows D S) {a : Au} {kl : Lit} (hk : keyOf Try.prog 29 (keyv a) = some kl) : Knows (D.put kl (.lit (.bool true))) (a :: S) := fun b kb hb => by
  by_cases e : kb = kl
  · subst e
    have := keyv_inj (once_key.inj hb hk)
    subst this
    rw [atKey_put_same hD (once_key.key hk)]
    simp [inS, same_self]
  · rw [atKey_put_other e, h b kb hb]
    have hne : same b a = false := by
      cases hs : same b a
      · rfl
      · rw [same_iff] at hs
        subst hs
        rw [hk] at hb
        exact absurd (Option.some.inj hb).symm e
    simp [inS, hne]

theorem owns_isMap {w : World} {P : Program} {k : TypeId} {R : Value → Option (DataW Unit × List MemPlace)} {b n : Nat} {D : DataW Unit} (h : w.ownsMap P k R b n D) : IsMap D := by
  obtain ⟨es, clock, hb, F, _, rfl⟩ := h
  exact ⟨_, rfl⟩

theorem owns_map_block {w w' : World} {P : Program} {k : TypeId} {R : Value → Option (DataW Unit × List MemPlace)} {b n : Nat} {D : DataW Unit} (h : w.ownsMap P k R b n D) (e : w'.heap[b]? = w.heap[b]?) : w'.ownsMap P k R b n D := by
  obtain ⟨es, clock, hb, F, hs, hD⟩ := h
  exact ⟨es, clock, by rw [e]; exact hb, F, hs, hD⟩

/-- The Replay and the map in memory. -/
structure One (W0 : Nat) (w : World) (B M cnt : Nat) (ad : Option Addr) (c : Nat) (L : List Au) (on : Bool) (since : Int) (D : DataW Unit) : Prop where
  o : Obj3 w B (.slice ad L.length c) on since
  r : w.ownsRow 0 29 4 (.slice ad L.length c) L.length (encs L)
  m : w.ownsMap Try.prog 29 (plainElem Try.prog 4) M cnt D
  ap : ¬ Foot B ad M
  g : ∀ k, Foot B ad k → W0 ≤ k
  mg : W0 ≤ M

theorem One.turn {W0 : Nat} {w0 w w' : World} {B M cnt : Nat} {ad : Option Addr} {c : Nat} {L L' : List Au} {on on' : Bool} {since since' : Int} {D : DataW Unit} (h : One W0 w B M cnt ad c L on since D) (hb : Below W0 w0 w) (hs : W0 ≤ w.heap.size)
    (hp : SeePost2 w w' B ad L' on' since') : ∃ ad' c', One W0 w' B M cnt ad' c' L' on' since' D ∧ Below W0 w0 w' := by
  obtain ⟨ad', c', k1, k2, k3, k4⟩ := hp
  refine ⟨ad', c', ⟨k1, k2, owns_map_block h.m (k3.block _ h.m.lt h.ap), ?_, ?_, h.mg⟩, below_of_fr hb k3 h.g hs⟩
  · intro hk
    rcases k4 M hk with hk1 | hk1
    · exact h.ap hk1
    · have := h.m.lt; omega
  · intro k hk
    rcases k4 k hk with hk1 | hk1
    · exact h.g k hk1
    · omega

theorem One.put {W0 : Nat} {w w' : World} {B M cnt cnt' : Nat} {ad : Option Addr} {c : Nat} {L : List Au} {on : Bool} {since : Int} {D D' : DataW Unit} (h : One W0 w B M cnt ad c L on since D) (hm : w'.ownsMap Try.prog 29 (plainElem Try.prog 4) M cnt' D') (hg : w.grownBy w' (some M)) :
    One W0 w' B M cnt' ad c L on since D' := by
  have hf := foot_lt h.o.lt h.r
  have e : ∀ k, Foot B ad k → w'.heap[k]? = w.heap[k]? := fun k hk => hg.block k (hf k hk) (fun e => h.ap (by cases e; exact hk))
  refine ⟨h.o.block (e B (.inl rfl)), ⟨h.r.1, ?_⟩, hm, h.ap, h.g, h.mg⟩
  rcases h.r.2 with h1 | ⟨g, cc, cur, h1, h2, h3, h4⟩
  · exact .inl h1
  · refine .inr ⟨g, cc, cur, h1, h2, ?_, h4⟩
    rw [e g (.inr (by rw [own_block ad 0 0 L.length c, h1]; rfl))]
    exact h3

theorem One.drew {W0 : Nat} {w : World} {B M cnt : Nat} {ad : Option Addr} {c : Nat} {L : List Au} {on : Bool} {since : Int} {D : DataW Unit} (h : One W0 w B M cnt ad c L on since D) (q : Nat) : One W0 (w.drewN q) B M cnt ad c L on since D := ⟨h.o, h.r, h.m, h.ap, h.g, h.mg⟩

theorem once_zero (w : World) : (zeroValue 4).run Try.prog w = .ok (.bool false) w := by kernel_rfl

set_option maxHeartbeats 4000000 in
set_option maxRecDepth 1000000 in
theorem once_in (start : Int) (w : World) (ad : Option Addr) (n c : Nat) (l : List Act1) (hr : ReadsActs w ad n c l) (h0 : 0 ≤ start) (h1 : start ≤ 1073741824) :
    Calls Try.prog 6 #[.int .i64 start, .slice ad n c] w fun e w' => e = .returned (.bool true) ∧ Below w.heap.size w w' := by
  have hl := long_any w ad n c l hr
  have hbig := hr.big
  have HR : Aside (ReadsActs w ad n c l) := hr
  clear hr
  have hmm := @run_makeMap Try.prog
  go_enter Try.func6, Try.ntmps6
  go_wp2_with fail
  refine hl.mono ?_
  rintro e w1 ⟨bb, rfl, hcalm, q1, hw1⟩
  cases bb with
  | true =>
    have HW1 := Lib.hid hw1
    clear hw1 hl hcalm
    go_wp2
    go_ret
    exact ⟨rfl, by rw [HW1.out]; exact below_drewN (Below.refl _ _) _⟩
  | false =>
  replace hcalm := hcalm rfl
  have HC : Aside (Calm l n) := hcalm
  have hb1 : Below w.heap.size w w1 := by rw [hw1]; exact below_drewN (Below.refl _ _) _
  have hsz1 : w1.heap.size = w.heap.size := by rw [hw1]; rfl
  have HSZ := Lib.hid hsz1; have HB1 := Lib.hid hb1
  clear hl hcalm hw1 hsz1 hb1
  go_wp2_with fail
  refine (new_any _ _).mono ?_
  rintro e w2 ⟨rfl, hw2⟩
  have hsz1 := HSZ.out; have hb1 := HB1.out
  clear HSZ HB1
  have hT : One w.heap.size (w2.alloc (.map #[] 0)) w1.heap.size w2.heap.size 0 none 0 [] (start != 0) start (.map []) ∧ Below w.heap.size w (w2.alloc (.map #[] 0)) ∧ w.heap.size ≤ (w2.alloc (.map #[] 0)).heap.size := by
    subst hw2
    refine ⟨⟨?_, World.ownsRow_nil _ _ _ _, World.ownsMap_made _ _ _ _, ?_, ?_, ?_⟩, (hb1.alloc (by omega) _).alloc (by simp; omega) _, by simp; omega⟩
    · unfold Obj3
      have := heap_alloc_old (w1.alloc (.cells #[.slice none 0 0, .bool (start != 0), .int .i64 start] 50)) (.map #[] 0) (show w1.heap.size < _ by simp)
      exact this.trans (heap_alloc_new _ _)
    · intro hk
      rcases hk with h | h
      · simp at h
      · simp [Value.ownBlock] at h
    · intro k hk
      rcases hk with rfl | hk
      · omega
      · simp [Value.ownBlock] at hk
    · simp; omega
  have HT := Lib.hid hT
  clear hT hw2 hb1 hsz1
  go_wp2_with fail
  generalize w2.alloc (.map #[] 0) = w3 at HT ⊢
  generalize w1.heap.size = B1 at HT ⊢
  generalize w2.heap.size = M at HT ⊢
  clear hmm
  go_loopg [6, 8] n (fun gg s6 s8 wr => ∃ (k : Nat) (now : Int) (ad1 : Option Addr) (c1 cnt : Nat) (L S : List Au) (on : Bool) (since : Int) (D : DataW Unit), k ≤ n ∧ k ≤ 80 ∧ cnt ≤ k ∧ L.length ≤ 8 ∧ n - k ≤ gg ∧ s8 = .int .i64 k ∧ s6 = .int .i64 now ∧ 0 ≤ now ∧ now ≤ 1073741824 ∧ Aside (0 ≤ since ∧ since ≤ 1073741824) ∧ Aside (One w.heap.size wr B1 M cnt ad1 c1 L on since D) ∧ Aside (Inv S L on since now) ∧ Aside (Knows D S) ∧ Aside (Below w.heap.size w wr ∧ w.heap.size ≤ wr.heap.size))
  case atStart => exact ⟨0, start, none, 0, 0, [], [], _, start, _, by omega, by omega, by omega, by simp, by omega, rfl, rfl, h0, h1, ⟨h0, h1⟩, HT.out.1, fun x hx => (nomatch hx), knows_nil, HT.out.2⟩
  case round =>
    obtain ⟨k, now, ad1, c1, cnt, L, S, on, since, D, hk, hk80, hcnt, hL8, hgg, rfl, rfl, hn0, hn1, HS, HO, HI, HK, HB⟩ := hrel
    by_cases hlt : k < n ∧ k < 80
    · obtain ⟨hlt, hlt2⟩ := hlt
      have hltz : (k : Int) < (n : Int) := by omega
      have hltz2 : (k : Int) < 80 := by omega
      obtain ⟨b, off, hb, hbl, hc⟩ := HR.out.cell (by omega)
      have hfit := HR.out.fits l[k]! (by rw [getElem!_pos l k (by rw [HR.out.len]; omega)]; exact List.getElem_mem _)
      have hcalm := HC.out k hlt hlt2
      obtain ⟨y, HY⟩ : ∃ y, Aside (l[k]! = y) := ⟨_, rfl⟩
      have hcw : ∀ W, Below w.heap.size w W → W.cell? ⟨b, off + k * 6, none⟩ = some (.int .i64 y.kind) ∧ W.cell? ⟨b, off + k * 6 + 1, none⟩ = some (.string y.a.realm) ∧ W.cell? ⟨b, off + k * 6 + 2, none⟩ = some (.string y.a.name) ∧ W.cell? ⟨b, off + k * 6 + 3, none⟩ = some (.int .i64 y.a.time) ∧ W.cell? ⟨b, off + k * 6 + 4, none⟩ = some (.int .i64 y.a.seq) ∧ W.cell? ⟨b, off + k * 6 + 5, none⟩ = some (.int .i64 y.by_) := fun W hB => by
        have e : ∀ p : Addr, p.block = b → W.cell? p = w.cell? p := fun p hp => hB.cell (by rw [hp]; exact hbl)
        have h6 := hc k hlt
        rw [HY.out] at h6
        refine ⟨?_, ?_, ?_, ?_, ?_, ?_⟩ <;> rw [e _ rfl]
        · exact h6 0 (by omega)
        · exact h6 1 (by omega)
        · exact h6 2 (by omega)
        · exact h6 3 (by omega)
        · exact h6 4 (by omega)
        · exact h6 5 (by omega)
      have HCW := Lib.hid hcw
      rw [HY.out] at hcalm hfit
      obtain ⟨kl, hkl⟩ := key_one y hfit
      have HKL := Lib.hid hkl
      obtain ⟨t0, t1⟩ := hcalm
      subst hb
      clear hc hcw hfit hkl
      obtain ⟨d0, d1, d2, d3, d4, d5⟩ := HCW.out wr HB.out.1
      have h15 := i64_and15 y.by_
      have hm0 : 0 ≤ min 1073741824 (now + y.by_ % 16) := by omega
      have hm1 : min 1073741824 (now + y.by_ % 16) ≤ 1073741824 := by omega
      have hm2 : now ≤ min 1073741824 (now + y.by_ % 16) := by omega
      by_cases hkd : y.kind = 2
      · have hkd' : (y.kind == 2) = true := by simp [hkd]
        clear hkd
        go_wp2_with fail
        generalize min 1073741824 (now + y.by_ % 16) = now' at hm0 hm1 hm2 ⊢
        clear h15
        have hI2 := inv_restart (inv_later HI.out hm2)
        have HI2 := Lib.hid hI2
        clear hI2
        refine (restart_frame wr B1 ad1 L.length c1 on since now' HO.out.o).mono ?_
        rintro e wx ⟨rfl, hpx⟩
        obtain ⟨ad1', c1', hh, hbx⟩ := HO.out.turn HB.out.1 HB.out.2 hpx
        have hsx : w.heap.size ≤ wx.heap.size := hbx.size
        have HHX := Lib.hid hh; have HBX := Lib.hid hbx
        clear hpx hh hbx
        go_wp2
        go_roundg (n - (k + 1))
        case measure => omega
        case rel => exact ⟨k + 1, now', ad1', c1', cnt, [], S, true, now', D, by omega, by omega, by omega, by simp, by omega, by go_num, rfl, hm0, hm1, ⟨hm0, hm1⟩, HHX.out, HI2.out, HK, HBX.out, hsx⟩
      · have hkd' : (y.kind == 2) = false := by simp [hkd]
        clear hkd
        go_wp2_with fail
        generalize min 1073741824 (now + y.by_ % 16) = now' at hm0 hm1 hm2 ⊢
        clear h15
        have hI2 := inv_later HI.out hm2
        have HI2 := Lib.hid hI2
        clear hI2
        have HA8 := Lib.hid (seeList_len L on since y.a now' hL8)
        refine (see_frame wr B1 c1 ad1 L on since y.a now' HO.out.o HO.out.r hL8 ⟨by omega, by omega⟩ ⟨by have := HS.out; omega, by have := HS.out; omega⟩).mono ?_
        rintro e wx ⟨rfl, hpx⟩
        obtain ⟨ad1', c1', hh, hbx⟩ := HO.out.turn HB.out.1 HB.out.2 hpx
        have hsx : w.heap.size ≤ wx.heap.size := hbx.size
        obtain ⟨d0, d1, d2, d3, d4, d5⟩ := HCW.out wx hbx
        have hown := hh.m
        have HHX := Lib.hid hh; have HBX := Lib.hid hbx
        clear hpx hh hbx
        by_cases hans : seeAns L on since y.a now' = 0
        · have hsn := inv_seen y.a HI2.out hans
          have hz : (seeAns L on since y.a now' == 0) = true := by simp [hans]
          have HSN := Lib.hid hsn
          clear hsn hans
          go_wp2_with (first
            | (at_lookup; refine wpList_lookup_own_bool _ rfl _ _ 46 rfl 29 4 once_key Try.underlying46 Try.underlying4 (once_zero _) M cnt D rfl hown _ kl rfl HKL.out ?_; intro cc hat; have hcc : cc = false := by { have h3 := HK.out _ _ HKL.out; rw [hat, HSN.out.1] at h3; simpa using h3 }; subst hcc; clear hat)
            | (at_mapUpdate; refine wpList_mapUpdate_own _ rfl _ _ _ 46 rfl 29 4 once_key Try.underlying46 _ M cnt D rfl hown (by unfold maxLen; omega) _ _ kl rfl rfl HKL.out (.lit (.bool true)) [] (plainElem_bool Try.underlying4 true) ?_; intro w4 hown4 hgrow4; clear hown))
          have h4 := HHX.out.put hown4 hgrow4
          have hkn := knows_put (owns_isMap HHX.out.m) HK.out HKL.out
          have hb4 : Below w.heap.size w w4 := HBX.out.grown hgrow4 hsx (fun j hj => by cases hj; exact HHX.out.mg)
          have hs4 : w.heap.size ≤ w4.heap.size := hb4.size
          have H4 := Lib.hid h4; have HKN := Lib.hid hkn; have HB4 := Lib.hid hb4
          clear h4 hkn hb4 hown4 hgrow4
          go_roundg (n - (k + 1))
          case measure => omega
          case rel => exact ⟨k + 1, now', ad1', c1', cnt + 1, _, _, on, since, _, by omega, by omega, by omega, HA8.out, by omega, by go_num, rfl, hm0, hm1, HS, H4.out, HSN.out.2, HKN.out, HB4.out, hs4⟩
        · have hz : (seeAns L on since y.a now' == 0) = false := by simp [hans]
          clear hans hown
          have hin := inv_see y.a HI2.out
          have HIN := Lib.hid hin
          clear hin
          go_wp2
          go_roundg (n - (k + 1))
          case measure => omega
          case rel => exact ⟨k + 1, now', ad1', c1', cnt, _, S, on, since, D, by omega, by omega, by omega, HA8.out, by omega, by go_num, rfl, hm0, hm1, HS, HHX.out, HIN.out, HK, HBX.out, hsx⟩
    · by_cases hkn : k < n
      · have hkz : (k : Int) < (n : Int) := by omega
        have hk8 : ¬ (k : Int) < 80 := by omega
        go_wp2_with (go_at_call 13; refine (known_any _).mono ?_; rintro e w4 ⟨rfl, hb4⟩)
        go_ret
        exact ⟨rfl, HB.out.1.trans (hb4.mono HB.out.2)⟩
      · have hkz : ¬ (k : Int) < (n : Int) := by omega
        go_wp2_with (go_at_call 13; refine (known_any _).mono ?_; rintro e w4 ⟨rfl, hb4⟩)
        go_ret
        exact ⟨rfl, HB.out.1.trans (hb4.mono HB.out.2)⟩

theorem once_start (start : Int) (w : World) (ad : Option Addr) (n c : Nat) (l : List Act1) (hr : ReadsActs w ad n c l) (h : start < 0 ∨ 1073741824 < start) :
    Calls Try.prog 6 #[.int .i64 start, .slice ad n c] w fun e w' => e = .returned (.bool true) ∧ Below w.heap.size w w' := by
  have hl := long_any w ad n c l hr
  have HR : Aside (ReadsActs w ad n c l) := hr
  clear hr
  by_cases h0 : start < 0
  · clear h
    go_enter Try.func6, Try.ntmps6
    go_wp2_with fail
    refine hl.mono ?_
    rintro e w1 ⟨bb, rfl, hcalm, q1, rfl⟩
    clear hl hcalm
    cases bb <;> (go_wp2; go_ret; exact ⟨rfl, below_drewN (Below.refl _ _) _⟩)
  · have h1 : 1073741824 < start := by omega
    clear h
    go_enter Try.func6, Try.ntmps6
    go_wp2_with fail
    refine hl.mono ?_
    rintro e w1 ⟨bb, rfl, hcalm, q1, rfl⟩
    clear hl hcalm
    cases bb <;> (go_wp2; go_ret; exact ⟨rfl, below_drewN (Below.refl _ _) _⟩)

theorem replayOnce_walk (a0 : Int) (ad1 : Option Addr) (n1 c1 : Nat) (l1 : List Act1) (w0 : (Lit.int .i64 a0).wf = true) (w : World) (rd : ReadsActs w ad1 n1 c1 l1) :
    Calls Try.prog 6 #[.int .i64 a0, .slice ad1 n1 c1] w fun e w' => e = .returned (.bool true) ∧ Below w.heap.size w w' := by
  by_cases h : a0 < 0 ∨ 1073741824 < a0
  · exact once_start a0 w ad1 n1 c1 l1 rd h
  · exact once_in a0 w ad1 n1 c1 l1 rd (by omega) (by omega)

end Go.Proofs.Ytjikekfjhfcdpaa
