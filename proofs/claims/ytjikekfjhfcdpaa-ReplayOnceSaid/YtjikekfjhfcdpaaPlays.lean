/-
  ReplayPlays: the walk of the law.
-/
import Derived.Test.YtjikekfjhfcdpaaLong
import Derived.Deep.RegionHeld3
import Derived.Deep.QuietTactic
import Derived.BigQuiet
set_option linter.unusedVariables false
set_option linter.unusedSimpArgs false
namespace Go.Proofs.Ytjikekfjhfcdpaa
open Go Go.RowKit Go.Lib Go.Shelf

theorem i64_and15 (n : Int) : bits .and .i64 n 15 = n % 16 := by
  have h3 : (BitVec.ofInt 64 15).toNat = 2 ^ 4 - 1 := by decide
  have key : (BitVec.ofInt 64 n &&& BitVec.ofInt 64 15).toNat = (n % ((2 ^ 64 : Nat) : Int)).toNat % 2 ^ 4 := by
    rw [BitVec.toNat_and, BitVec.toNat_ofInt, h3, Nat.and_two_pow_sub_one_eq_mod]
  show IntKind.i64.wrap ((BitVec.ofInt 64 n &&& BitVec.ofInt 64 15).toNat : Nat) = n % 16
  rw [key, IntKind.wrap_i64]
  omega

theorem seeList_len (l : List Au) (on : Bool) (since : Int) (a : Au) (now : Int) (h : l.length ≤ 8) : (seeList l on since a now).length ≤ 8 := by
  unfold seeList
  have hf := List.length_filter_le (keep now) l
  split
  · exact h
  · split
    · omega
    · split
      · omega
      · simp; omega

/-- Both Replays in memory, with the same of what was seen; nothing of the one is the other's. -/
structure Two (W0 : Nat) (w : World) (B1 B2 : Nat) (ad1 ad2 : Option Addr) (c1 c2 : Nat) (L : List Au) (on : Bool) (since : Int) : Prop where
  o1 : Obj3 w B1 (.slice ad1 L.length c1) on since
  r1 : w.ownsRow 0 29 4 (.slice ad1 L.length c1) L.length (encs L)
  o2 : Obj4 w B2 (.slice ad2 L.length c2) on since
  r2 : w.ownsRow 0 29 4 (.slice ad2 L.length c2) L.length (encs L)
  ap : ∀ k, Foot B1 ad1 k → ¬ Foot B2 ad2 k
  g1 : ∀ k, Foot B1 ad1 k → W0 ≤ k
  g2 : ∀ k, Foot B2 ad2 k → W0 ≤ k
  len : L.length ≤ 8

theorem foot_lt {w : World} {B n c : Nat} {ad : Option Addr} {l : List Au} (hB : B < w.heap.size) (h : w.ownsRow 0 29 4 (.slice ad n c) n (encs l)) : ∀ k, Foot B ad k → k < w.heap.size := fun k hk => by
  rcases hk with rfl | hk
  · exact hB
  · exact (h.lt k (by rw [own_block ad n c 0 0]; exact hk)).2

theorem owns_keep {w w' : World} {ad : Option Addr} {n c B : Nat} {l : List Au} {F : Nat → Prop} (h : w.ownsRow 0 29 4 (.slice ad n c) n (encs l)) (hf : Fr F w w') (hn : ∀ k, Foot B ad k → ¬ F k) : w'.ownsRow 0 29 4 (.slice ad n c) n (encs l) := by
  refine ⟨h.1, ?_⟩
  rcases h.2 with h1 | ⟨g, cc, cur, h1, h2, h3, h4⟩
  · exact .inl h1
  · refine .inr ⟨g, cc, cur, h1, h2, ?_, h4⟩
    rw [hf.block g (lt_of_block h3) (hn g (.inr (by rw [own_block ad 0 0 n c, h1]; rfl)))]
    exact h3

theorem below_of_fr {W0 : Nat} {a w w' : World} {F : Nat → Prop} (h : Below W0 a w) (hf : Fr F w w') (hg : ∀ k, F k → W0 ≤ k) (hs : W0 ≤ w.heap.size) : Below W0 a w' :=
  h.trans ⟨hf.os, hf.tape, hf.output, hf.size, fun k hk => hf.block k (by omega) (fun hF => by have := hg k hF; omega)⟩

/-- The first of the two turned, the second as it was. -/
structure Half (W0 : Nat) (w : World) (B1 B2 : Nat) (ad1 ad2 : Option Addr) (c1 c2 : Nat) (L L' : List Au) (on on' : Bool) (since since' : Int) : Prop where
  o1 : Obj3 w B1 (.slice ad1 L'.length c1) on' since'
  r1 : w.ownsRow 0 29 4 (.slice ad1 L'.length c1) L'.length (encs L')
  o2 : Obj4 w B2 (.slice ad2 L.length c2) on since
  r2 : w.ownsRow 0 29 4 (.slice ad2 L.length c2) L.length (encs L)
  ap : ∀ k, Foot B1 ad1 k → ¬ Foot B2 ad2 k
  g1 : ∀ k, Foot B1 ad1 k → W0 ≤ k
  g2 : ∀ k, Foot B2 ad2 k → W0 ≤ k

theorem Two.first {W0 : Nat} {w0 w w' : World} {B1 B2 : Nat} {ad1 ad2 : Option Addr} {c1 c2 : Nat} {L L' : List Au} {on on' : Bool} {since since' : Int} (h : Two W0 w B1 B2 ad1 ad2 c1 c2 L on since) (hb : Below W0 w0 w) (hs : W0 ≤ w.heap.size)
    (hp : SeePost2 w w' B1 ad1 L' on' since') : ∃ ad1' c1', Half W0 w' B1 B2 ad1' ad2 c1' c2 L L' on on' since since' ∧ Below W0 w0 w' := by
  obtain ⟨ad1', c1', k1, k2, k3, k4⟩ := hp
  have hl2 := foot_lt h.o2.lt h.r2
  refine ⟨ad1', c1', ⟨k1, k2, h.o2.block (k3.block _ h.o2.lt (fun hF => h.ap _ hF (.inl rfl))), owns_keep (B := B2) h.r2 k3 (fun k hk hF => h.ap k hF hk), ?_, ?_, h.g2⟩, below_of_fr hb k3 h.g1 hs⟩
  · intro k hk hk2
    rcases k4 k hk with hk1 | hk1
    · exact h.ap k hk1 hk2
    · have := hl2 k hk2; omega
  · intro k hk
    rcases k4 k hk with hk1 | hk1
    · exact h.g1 k hk1
    · omega

theorem Half.second {W0 : Nat} {w0 w w' : World} {B1 B2 : Nat} {ad1 ad2 : Option Addr} {c1 c2 : Nat} {L L' : List Au} {on on' : Bool} {since since' : Int} (h : Half W0 w B1 B2 ad1 ad2 c1 c2 L L' on on' since since') (hb : Below W0 w0 w) (hs : W0 ≤ w.heap.size)
    (hp : RefPost w w' B2 ad2 L' on' since') (hl : L'.length ≤ 8) : ∃ ad2' c2', Two W0 w' B1 B2 ad1 ad2' c1 c2' L' on' since' ∧ Below W0 w0 w' := by
  obtain ⟨ad2', c2', k1, k2, k3, k4⟩ := hp
  have hl1 := foot_lt h.o1.lt h.r1
  refine ⟨ad2', c2', ⟨h.o1.block (k3.block _ h.o1.lt (fun hF => h.ap _ (.inl rfl) hF)), owns_keep (B := B1) h.r1 k3 (fun k hk hF => h.ap k hk hF), k1, k2, ?_, h.g1, ?_, hl⟩, below_of_fr hb k3 h.g2 hs⟩
  · intro k hk hk2
    rcases k4 k hk2 with hk1 | hk1
    · exact h.ap k hk hk1
    · have := hl1 k hk; omega
  · intro k hk
    rcases k4 k hk with hk1 | hk1
    · exact h.g2 k hk1
    · omega

theorem Half.drew {W0 : Nat} {w : World} {B1 B2 : Nat} {ad1 ad2 : Option Addr} {c1 c2 : Nat} {L L' : List Au} {on on' : Bool} {since since' : Int} (h : Half W0 w B1 B2 ad1 ad2 c1 c2 L L' on on' since since') (q : Nat) : Half W0 (w.drewN q) B1 B2 ad1 ad2 c1 c2 L L' on on' since since' := ⟨h.o1, h.r1, h.o2, h.r2, h.ap, h.g1, h.g2⟩
theorem Two.drew {W0 : Nat} {w : World} {B1 B2 : Nat} {ad1 ad2 : Option Addr} {c1 c2 : Nat} {L : List Au} {on : Bool} {since : Int} (h : Two W0 w B1 B2 ad1 ad2 c1 c2 L on since) (q : Nat) : Two W0 (w.drewN q) B1 B2 ad1 ad2 c1 c2 L on since := ⟨h.o1, h.r1, h.o2, h.r2, h.ap, h.g1, h.g2, h.len⟩

theorem len_same (w : World) (B cap n : Nat) (ad : Option Addr) (on : Bool) (since : Int) (hO : Obj3 w B (.slice ad n cap) on since) :
    Calls Try.prog 12 #[.pointer (some ⟨B, 0, none⟩)] w fun e w' => e = .returned (.int .i64 n) ∧ w' = w := (len_frame w B cap n ad on since hO).mono fun _ _ ⟨h1, h2⟩ => ⟨h1, h2.symm⟩

set_option maxHeartbeats 4000000 in
set_option maxRecDepth 1000000 in
theorem plays_in (start : Int) (w : World) (ad : Option Addr) (n c : Nat) (l : List Act1) (hr : ReadsActs w ad n c l) (h0 : 0 ≤ start) (h1 : start ≤ 1073741824) :
    Calls Try.prog 5 #[.int .i64 start, .slice ad n c] w fun e w' => e = .returned (.bool true) ∧ Below w.heap.size w w' := by
  have hl := long_any w ad n c l hr
  have hbig := hr.big
  have HR : Aside (ReadsActs w ad n c l) := hr
  clear hr
  go_enter Try.func5, Try.ntmps5
  go_wp2_with fail
  refine hl.mono ?_
  rintro e w1 ⟨bb, rfl, hcalm, q1, hw1⟩
  cases bb with
  | true =>
    have HW1 := Lib.hid hw1
    clear hw1 hl hcalm
    go_wp2
    go_ret
    exact ⟨rfl, by rw [HW1.out]; exact below_drewN (Below.refl _ _) _⟩
  | false =>
  replace hcalm := hcalm rfl
  have HC : Aside (Calm l n) := hcalm
  have hb1 : Below w.heap.size w w1 := by rw [hw1]; exact below_drewN (Below.refl _ _) _
  have hsz1 : w1.heap.size = w.heap.size := by rw [hw1]; rfl
  have HSZ := Lib.hid hsz1; have HB1 := Lib.hid hb1
  clear hl hcalm hw1 hsz1 hb1
  go_wp2_with fail
  refine (new_any _ _).mono ?_
  rintro e w2 ⟨rfl, hw2⟩
  have HW2 := Lib.hid hw2
  clear hw2
  go_wp2_with fail
  refine (refnew_any _ _).mono ?_
  rintro e w3 ⟨rfl, hw3⟩
  have hw2 := HW2.out; have hsz1 := HSZ.out; have hb1 := HB1.out
  clear HW2 HSZ HB1
  have hT : Two w.heap.size w3 w1.heap.size w2.heap.size none none 0 0 [] (start != 0) start ∧ Below w.heap.size w w3 ∧ w.heap.size ≤ w3.heap.size := by
    subst hw2 hw3
    refine ⟨⟨?_, World.ownsRow_nil _ _ _ _, heap_alloc_new _ _, World.ownsRow_nil _ _ _ _, ?_, ?_, ?_, by simp⟩, (hb1.alloc (by omega) _).alloc (by simp; omega) _, by simp; omega⟩
    · unfold Obj3
      have := heap_alloc_old (w1.alloc (.cells #[.slice none 0 0, .bool (start != 0), .int .i64 start] 50)) (.cells #[.slice none 0 0, .bool (start != 0), .int .i64 start] 44) (show w1.heap.size < _ by simp)
      exact this.trans (heap_alloc_new _ _)
    · intro k hk hk2
      rcases hk with rfl | hk
      · rcases hk2 with h | h
        · simp at h
        · simp [Value.ownBlock] at h
      · simp [Value.ownBlock] at hk
    · intro k hk
      rcases hk with rfl | hk
      · omega
      · simp [Value.ownBlock] at hk
    · intro k hk
      rcases hk with rfl | hk
      · simp; omega
      · simp [Value.ownBlock] at hk
  generalize w1.heap.size = B1 at hT ⊢
  generalize w2.heap.size = B2 at hT ⊢
  clear hw2 hw3 hb1 hsz1
  have HT := Lib.hid hT
  clear hT
  go_wp2
  go_loopg [7, 8] n (fun gg s7 s8 wr => ∃ (k : Nat) (now : Int) (ad1 ad2 : Option Addr) (c1 c2 : Nat) (L : List Au) (on : Bool) (since : Int), k ≤ n ∧ k ≤ 80 ∧ n - k ≤ gg ∧ s8 = .int .i64 k ∧ s7 = .int .i64 now ∧ 0 ≤ now ∧ now ≤ 1073741824 ∧ Aside (0 ≤ since ∧ since ≤ 1073741824) ∧ Aside (Two w.heap.size wr B1 B2 ad1 ad2 c1 c2 L on since) ∧ Aside (Below w.heap.size w wr ∧ w.heap.size ≤ wr.heap.size))
  case atStart => exact ⟨0, start, none, none, 0, 0, [], _, start, by omega, by omega, by omega, rfl, rfl, h0, h1, ⟨h0, h1⟩, HT.out.1, HT.out.2⟩
  case round =>
    obtain ⟨k, now, ad1, ad2, c1, c2, L, on, since, hk, hk80, hgg, rfl, rfl, hn0, hn1, HS, H2, HB⟩ := hrel
    by_cases hlt : k < n ∧ k < 80
    · obtain ⟨hlt, hlt2⟩ := hlt
      have hltz : (k : Int) < (n : Int) := by omega
      have hltz2 : (k : Int) < 80 := by omega
      obtain ⟨b, off, hb, hbl, hc⟩ := HR.out.cell (by omega)
      have hfit := HR.out.fits l[k]! (by rw [getElem!_pos l k (by rw [HR.out.len]; omega)]; exact List.getElem_mem _)
      have hcalm := HC.out k hlt hlt2
      obtain ⟨y, HY⟩ : ∃ y, Aside (l[k]! = y) := ⟨_, rfl⟩
      have hcw : ∀ W, Below w.heap.size w W → W.cell? ⟨b, off + k * 6, none⟩ = some (.int .i64 y.kind) ∧ W.cell? ⟨b, off + k * 6 + 1, none⟩ = some (.string y.a.realm) ∧ W.cell? ⟨b, off + k * 6 + 2, none⟩ = some (.string y.a.name) ∧ W.cell? ⟨b, off + k * 6 + 3, none⟩ = some (.int .i64 y.a.time) ∧ W.cell? ⟨b, off + k * 6 + 4, none⟩ = some (.int .i64 y.a.seq) ∧ W.cell? ⟨b, off + k * 6 + 5, none⟩ = some (.int .i64 y.by_) := fun W hB => by
        have e : ∀ p : Addr, p.block = b → W.cell? p = w.cell? p := fun p hp => hB.cell (by rw [hp]; exact hbl)
        have h6 := hc k hlt
        rw [HY.out] at h6
        refine ⟨?_, ?_, ?_, ?_, ?_, ?_⟩ <;> rw [e _ rfl]
        · exact h6 0 (by omega)
        · exact h6 1 (by omega)
        · exact h6 2 (by omega)
        · exact h6 3 (by omega)
        · exact h6 4 (by omega)
        · exact h6 5 (by omega)
      have HCW := Lib.hid hcw
      rw [HY.out] at hcalm
      obtain ⟨t0, t1⟩ := hcalm
      subst hb
      clear hc hcw hfit
      obtain ⟨d0, d1, d2, d3, d4, d5⟩ := HCW.out wr HB.out.1
      have h15 := i64_and15 y.by_
      have hm0 : 0 ≤ min 1073741824 (now + y.by_ % 16) := by omega
      have hm1 : min 1073741824 (now + y.by_ % 16) ≤ 1073741824 := by omega
      by_cases hkd : y.kind = 2
      · have hkd' : (y.kind == 2) = true := by simp [hkd]
        clear hkd
        go_wp2_with fail
        generalize min 1073741824 (now + y.by_ % 16) = now' at hm0 hm1 ⊢
        clear h15
        refine (restart_frame wr B1 ad1 L.length c1 on since now' H2.out.o1).mono ?_
        rintro e wx ⟨rfl, hpx⟩
        obtain ⟨ad1', c1', hh, hbx⟩ := H2.out.first HB.out.1 HB.out.2 hpx
        have hsx : w.heap.size ≤ wx.heap.size := hbx.size
        have HHX := Lib.hid hh; have HBX := Lib.hid hbx
        clear hpx hh hbx
        go_wp2_with fail
        refine (refrestart_any wx B2 ad2 L.length c2 on since now' HHX.out.o2).mono ?_
        rintro e wz ⟨rfl, hpz⟩
        obtain ⟨ad2', c2', h2w, hbz⟩ := HHX.out.second HBX.out hsx hpz (by simp)
        have hsz : w.heap.size ≤ wz.heap.size := hbz.size
        have HBZ := Lib.hid hbz
        clear hpz hbz
        have y0 := h2w.o2.c0
        have hln := fun q => len_same (wz.drewN q) B1 _ _ _ _ _ h2w.o1
        have HTW := Lib.hid h2w
        clear h2w
        go_wp2_with fail
        go_quiet ((go_at_call 12; exact Calls.quiet_of_same (hln _)))
        go_wp2
        go_roundg (n - (k + 1))
        case measure => omega
        case rel => exact ⟨k + 1, now', ad1', ad2', c1', c2', [], true, now', by omega, by omega, by omega, by go_num, rfl, hm0, hm1, ⟨hm0, hm1⟩, HTW.out.drew nq, below_drewN HBZ.out nq, hsz⟩
      · have hkd' : (y.kind == 2) = false := by simp [hkd]
        clear hkd
        go_wp2_with fail
        generalize min 1073741824 (now + y.by_ % 16) = now' at hm0 hm1 ⊢
        clear h15
        have hbd : Below w.heap.size w wr.drew := HB.out.1.drew
        have HA8 := Lib.hid (seeList_len L on since y.a now' H2.out.len)
        go_region_held3 (fun W => W.cell? ⟨b, off + k * 6, none⟩ = some (.int .i64 y.kind) ∧ W.cell? ⟨b, off + k * 6 + 1, none⟩ = some (.string y.a.realm) ∧ W.cell? ⟨b, off + k * 6 + 2, none⟩ = some (.string y.a.name) ∧ W.cell? ⟨b, off + k * 6 + 3, none⟩ = some (.int .i64 y.a.time) ∧ W.cell? ⟨b, off + k * 6 + 4, none⟩ = some (.int .i64 y.a.seq) ∧ W.cell? ⟨b, off + k * 6 + 5, none⟩ = some (.int .i64 y.by_)) (first | exact HCW.out _ (by assumption) | go_keep)
          (first | (go_at_call 11; refine (see_frame _ B1 c1 ad1 L on since y.a now' (by exact H2.out.o1) (by exact H2.out.r1) H2.out.len ⟨by omega, by omega⟩ ⟨by have := HS.out; omega, by have := HS.out; omega⟩).mono ?_; rintro e wx ⟨rfl, hpx⟩; obtain ⟨ad1', c1', hh, hbx⟩ := (H2.out.drew 1).first hbd HB.out.2 hpx; have hsx : w.heap.size ≤ wx.heap.size := hbx.size; have HHX := Lib.hid hh; clear hpx hh) | (go_at_call 18; refine (refsee_any _ B2 c2 ad2 L on since y.a now' HHX.out.o2 HHX.out.r2 H2.out.len ⟨by omega, by omega⟩ ⟨by have := HS.out; omega, by have := HS.out; omega⟩).mono ?_; rintro e wz ⟨rfl, hpz⟩; obtain ⟨ad2', c2', h2w, hbz⟩ := HHX.out.second hbx hsx hpz HA8.out; have hsz : w.heap.size ≤ wz.heap.size := hbz.size; have y0 := h2w.o2.c0; have hln := fun q => len_same (wz.drewN q) B1 _ _ _ _ _ h2w.o1; have HTW := Lib.hid h2w; clear hpz h2w))
        have HBZ := Lib.hid hbz
        clear hbz hbx hbd
        go_wp2_with fail
        go_quiet ((go_at_call 12; exact Calls.quiet_of_same (hln _)))
        go_wp2
        go_roundg (n - (k + 1))
        case measure => omega
        case rel => exact ⟨k + 1, now', ad1', ad2', c1', c2', _, on, since, by omega, by omega, by omega, by go_num, rfl, hm0, hm1, HS, HTW.out.drew nq, below_drewN HBZ.out nq, hsz⟩
    · by_cases hkn : k < n
      · have hkz : (k : Int) < (n : Int) := by omega
        have hk8 : ¬ (k : Int) < 80 := by omega
        go_wp2_with (go_at_call 13; refine (known_any _).mono ?_; rintro e w4 ⟨rfl, hb4⟩)
        go_ret
        exact ⟨rfl, HB.out.1.trans (hb4.mono HB.out.2)⟩
      · have hkz : ¬ (k : Int) < (n : Int) := by omega
        go_wp2_with (go_at_call 13; refine (known_any _).mono ?_; rintro e w4 ⟨rfl, hb4⟩)
        go_ret
        exact ⟨rfl, HB.out.1.trans (hb4.mono HB.out.2)⟩

theorem plays_start (start : Int) (w : World) (ad : Option Addr) (n c : Nat) (l : List Act1) (hr : ReadsActs w ad n c l) (h : start < 0 ∨ 1073741824 < start) :
    Calls Try.prog 5 #[.int .i64 start, .slice ad n c] w fun e w' => e = .returned (.bool true) ∧ Below w.heap.size w w' := by
  have hl := long_any w ad n c l hr
  have HR : Aside (ReadsActs w ad n c l) := hr
  clear hr
  by_cases h0 : start < 0
  · clear h
    go_enter Try.func5, Try.ntmps5
    go_wp2_with fail
    refine hl.mono ?_
    rintro e w1 ⟨bb, rfl, hcalm, q1, rfl⟩
    clear hl hcalm
    cases bb <;> (go_wp2; go_ret; exact ⟨rfl, below_drewN (Below.refl _ _) _⟩)
  · have h1 : 1073741824 < start := by omega
    clear h
    go_enter Try.func5, Try.ntmps5
    go_wp2_with fail
    refine hl.mono ?_
    rintro e w1 ⟨bb, rfl, hcalm, q1, rfl⟩
    clear hl hcalm
    cases bb <;> (go_wp2; go_ret; exact ⟨rfl, below_drewN (Below.refl _ _) _⟩)

theorem replayPlays_walk (a0 : Int) (ad1 : Option Addr) (n1 c1 : Nat) (l1 : List Act1) (w0 : (Lit.int .i64 a0).wf = true) (w : World) (rd : ReadsActs w ad1 n1 c1 l1) :
    Calls Try.prog 5 #[.int .i64 a0, .slice ad1 n1 c1] w fun e w' => e = .returned (.bool true) ∧ Below w.heap.size w w' := by
  by_cases h : a0 < 0 ∨ 1073741824 < a0
  · exact plays_start a0 w ad1 n1 c1 l1 rd h
  · exact plays_in a0 w ad1 n1 c1 l1 rd (by omega) (by omega)

end Go.Proofs.Ytjikekfjhfcdpaa
