/-
  legateref6.Expand.
-/
import Derived.Test.YtjbdegcmolimoaaDoorTrRefSub
import Derived.Test.YtjbdegcmolimoaaDoorTrExp
import Derived.Test.YtjbdegcmolimoaaDoorTrLaw
import Derived.Test.YtjbdegcmolimoaaDoorRefBet
set_option linter.unusedVariables false
set_option linter.unusedSimpArgs false
namespace Go.Proofs.YtjbdegcmolimoaaDoor
open Go Go.RowKit Go.Lib Go.Shelf

/-- A row that another row's block does not touch. -/
def Apart (ad adr : Option Addr) : Prop := ∀ b off, adr = some ⟨b, off, none⟩ → (Value.slice ad 0 0).ownBlock ≠ some b
theorem own_apart {w : World} {base n cc : Nat} {ad2 adr : Option Addr} {m : List Str} (h : w.ownsRow base 9 1 (.slice adr n cc) n (strs m)) (hn : 0 < n) (h2 : ∀ b, (Value.slice ad2 0 0).ownBlock = some b → b < base) : Apart ad2 adr := by
  intro b off e hh
  obtain ⟨g', cap, e', hb, _⟩ := World.ownsRow.form h hn
  simp only [Value.slice.injEq] at e'
  rw [e] at e'
  simp only [Option.some.injEq, Addr.mk.injEq] at e'
  have := h2 b hh
  omega
theorem own_lt {w : World} {base n c : Nat} {ad : Option Addr} {l : List Str} (h : w.ownsRow base 9 1 (.slice ad n c) n (strs l)) : ∀ b, (Value.slice ad 0 0).ownBlock = some b → b < w.heap.size := fun b hb => by
  rw [← own_block ad n c] at hb
  exact (h.lt b hb).2
theorem add_row {w w' : World} {base : Nat} {ad adr : Option Addr} {n c m : Nat} {l R : List Str} {r : Str} {e : Ending} (h : AddPost w w' base ad n c l r e) (hA : At w adr m R) (hf : 0 < m → Apart ad adr) (hs : w.heap.size ≤ w'.heap.size) :
    ∃ ad' c', e = .returned (.slice ad' (addOf l r).length c') ∧ w'.ownsRow base 9 1 (.slice ad' (addOf l r).length c') (addOf l r).length (strs (addOf l r)) ∧ Below base w w' ∧ At w' adr m R ∧ (0 < m → Apart ad' adr) := by
  obtain ⟨ad', c', h1, h2, h3, h4, h5, h6⟩ := h
  refine ⟨ad', c', h1, h2, h4, ⟨hA.len, fun hm => ?_⟩, fun hm => ?_⟩
  · obtain ⟨b, off, e1, e2, e3⟩ := hA.cell hm
    refine ⟨b, off, e1, Nat.lt_of_lt_of_le e2 hs, fun j hj => (World.cell?_of_block (a := ⟨b, off + j, none⟩) (h5 b e2 (hf hm b off e1))).trans (e3 j hj)⟩
  · intro b off e1 e2
    rcases h6 with h6 | ⟨b2, h6, h7⟩
    · exact hf hm b off e1 (h6 ▸ e2)
    · obtain ⟨b3, off3, e3, e4, _⟩ := hA.cell hm
      rw [e1] at e3
      simp only [Option.some.injEq, Addr.mk.injEq] at e3
      rw [h6] at e2
      simp only [Option.some.injEq] at e2
      omega
theorem AddPost.bel {w w' : World} {base : Nat} {ad : Option Addr} {n c : Nat} {l : List Str} {r : Str} {e : Ending} (h : AddPost w w' base ad n c l r e) (hs : base ≤ w.heap.size) (hown : w.ownsRow base 9 1 (.slice ad n c) n (strs l)) : w.heap.size ≤ w'.heap.size := by
  obtain ⟨_, _, _, _, _, h4, _, _⟩ := h
  exact h4.size
theorem refsplit44 (w : World) (s : ByteArray) (hs : s.size < 1100000) : Calls Tryd.prog 34 #[.string s, .int .u8 44] w fun e w' => RowPost w w' (splitOn 44 s.data.toList).length (splitOn 44 s.data.toList) e := refsplit_any w s 44 hs
theorem getD_none {s p : Str} {t : ByteArray} (h : subOf s p = none) (ht : t.data.toList = (subOf s p).getD []) : t.toList = [] := (empty_iff t).2 (by rw [ht, h]; rfl)
theorem getD_some {s p r : Str} {t : ByteArray} (h : subOf s p = some r) (ht : t.data.toList = (subOf s p).getD []) : t.data.toList = r := by rw [ht, h]; rfl

set_option maxHeartbeats 8000000 in
set_option maxRecDepth 1000000 in
theorem refexpand_any (w : World) (s cl sv : ByteArray) (ss : s.size < 70000) (sc : cl.size < 90000) (sn : sv.size < 90000) :
    Calls Tryd.prog 23 #[.string s, .string cl, .string sv] w fun e w' => ExpPost w w' (expandOf s.data.toList cl.data.toList sv.data.toList) e := by
  have acc : Below w.heap.size w w := Below.refl _ _
  cases hx : isR cl.data.toList with
  | false =>
    have hr := Lib.hid (ends_expand (s := s.data.toList) (b := sv.data.toList) (.inl hx))
    go_enter Tryd.func23, Tryd.ntmps23
    go_wp2_with (go_at_call 14; refine (refis_any _ _ (by assumption)).mono ?_; rintro e w2 ⟨rfl, hb⟩; rw [hx]; replace acc := acc.trans (hb.mono acc.size); clear hb)
    go_ret2
    exact exp_none hr.out acc
  | true =>
    cases hy : isR sv.data.toList with
    | false =>
      have hr := Lib.hid (ends_expand (s := s.data.toList) (a := cl.data.toList) (.inr hy))
      go_enter Tryd.func23, Tryd.ntmps23
      go_wp2_with (go_at_call 14; refine (refis_any _ _ (by assumption)).mono ?_; rintro e w2 ⟨rfl, hb⟩; (first | rw [hx] | rw [hy]); replace acc := acc.trans (hb.mono acc.size); clear hb)
      go_ret2
      exact exp_none hr.out acc
    | true =>
      by_cases h0 : s.data.toList = []
      · have hs0 := (empty_iff s).2 h0
        have hr : expandOf s.data.toList cl.data.toList sv.data.toList = ([], 0) := by
          unfold expandOf
          rw [if_neg (by rw [hx, hy]; simp), if_pos h0]
        have HR := Lib.hid hr
        clear hr h0
        go_enter Tryd.func23, Tryd.ntmps23
        go_wp2_with (go_at_call 14; refine (refis_any _ _ (by assumption)).mono ?_; rintro e w2 ⟨rfl, hb⟩; (first | rw [hx] | rw [hy]); replace acc := acc.trans (hb.mono acc.size); clear hb)
        go_ret2
        exact exp_none HR.out acc
      · have hs0 : ¬ s.toList = [] := fun e => h0 ((empty_iff s).1 e)
        have hs1 : s.toList.isEmpty = false := by simpa using hs0
        have hr := expand_go hx hy h0
        have hplen := part_len 44 s.data.toList
        have hmlen := splitOn_len 44 s.data.toList
        have hsl : s.data.toList.length = s.size := rfl
        have hcl := isR_short' hx
        have hsvl := isR_short' hy
        have HY := Lib.hid hy
        obtain ⟨X, hX⟩ : ∃ X, X = expandOf s.data.toList cl.data.toList sv.data.toList := ⟨_, rfl⟩
        rw [← hX] at hr ⊢
        have hS := fun w => refsplit44 w s (by omega)
        obtain ⟨F, hF⟩ : ∃ F, F = splitOn 44 s.data.toList := ⟨_, rfl⟩
        rw [← hF] at hr hplen hmlen hS
        have HR := Lib.hid hr
        have HPL := Lib.hid hplen
        clear hr hplen hX hF h0
        go_enter Tryd.func23, Tryd.ntmps23
        go_wp2_with (first
          | (go_at_call 14; refine (refis_any _ _ (by assumption)).mono ?_; rintro e w2 ⟨rfl, hb⟩; (first | rw [hx] | rw [hy]); replace acc := acc.trans (hb.mono acc.size); clear hb)
          | (go_at_call 34; refine (hS _).mono ?_; rintro e w4 ⟨ad1, c1, rfl, ho4, hc4, hb4⟩; replace acc := acc.trans (hb4.mono acc.size)))
        have HF4 := Lib.hid (At.owns ho4)
        have HACC := Lib.hid acc
        have hE0 : w.heap.size ≤ w4.heap.size := acc.size
        clear ho4 hb4 hS acc hc4
        go_loopg [9, 10, 11, 12] (F.length + 1) (fun gg s9 s10 s11 s12 wr => ∃ (i : Nat) (ad : Option Addr) (c : Nat) (l : List Str) (p : ByteArray) (nl : Bool), i ≤ F.length + 1 ∧ F.length + 1 - i ≤ gg ∧ s9 = .slice ad l.length c ∧ s10 = .string p ∧ s11 = .bool nl ∧ s12 = .int .i64 i ∧ l.length ≤ 8 ∧ p.size ≤ 37 ∧ Aside (wr.ownsRow w4.heap.size 9 1 (.slice ad l.length c) l.length (strs l)) ∧ Aside (Below w4.heap.size w4 wr) ∧ Aside (i ≤ F.length → X = exGo cl.data.toList sv.data.toList (F.drop i) l p.data.toList nl) ∧ Aside (i = F.length + 1 → X = (l, 0)))
        case atStart => exact ⟨0, none, 0, [], ⟨#[]⟩, false, by omega, by omega, rfl, rfl, rfl, rfl, by simp, by show 0 ≤ 37; omega, World.ownsRow_nil _ _ _ _, Below.refl _ _, fun _ => HR.out, fun h => by omega⟩
        case round =>
          obtain ⟨i, ad, c, l, p, nl, hi, hgg, rfl, rfl, rfl, rfl, hl8, hp37, HO, HB, HGO, HEND⟩ := hrel
          have accr : Below w.heap.size w wr := HACC.out.trans (HB.out.mono hE0)
          have ACCR := Lib.hid accr
          have hE1 : w4.heap.size ≤ wr.heap.size := HB.out.size
          clear accr
          by_cases hlt : i < F.length
          · have hltz : (i : Int) < (F.length : Int) := by omega
            have hltz2 : (i : Int) ≤ (F.length : Int) := by omega
            have hA := HF4.out.below (HB.out)
            obtain ⟨bk, off, hbk, hbl, hc⟩ := hA.cell (by omega)
            obtain ⟨f, hff⟩ : ∃ f : ByteArray, f = ⟨F[i]!.toArray⟩ := ⟨_, rfl⟩
            have hfd : f.data.toList = F[i]! := by rw [hff]
            have kf := hc i hlt
            rw [← hff] at kf
            have hmem : F[i]! ∈ F := by rw [getElem!_pos F i hlt]; exact List.getElem_mem _
            have sf : f.size < 80000 := by have e : f.data.toList.length = f.size := rfl; have := HPL.out _ hmem; rw [hfd] at e; omega
            have hstep : F.drop i = f.data.toList :: F.drop (i + 1) := by rw [hfd, getElem!_pos F i hlt]; exact List.drop_eq_getElem_cons hlt
            have hgo := HGO.out (by omega)
            rw [hstep, exGo_cons] at hgo
            have HBK := Lib.hid hbk
            subst hbk
            clear hA hc hff hmem hstep HGO HEND
            by_cases hf0 : f.data.toList = []
            · rw [if_pos hf0] at hgo
              have hf1 := (empty_iff f).2 hf0
              have HGO := Lib.hid hgo
              clear hgo hf0 hfd
              go_wp2
              go_roundg (F.length + 1 - (i + 1))
              case measure => omega
              case rel => exact ⟨i + 1, ad, c, l, p, true, by omega, by omega, rfl, rfl, rfl, by go_num, hl8, hp37, HO.out, HB.out, fun _ => HGO.out, fun h => by omega⟩
            · rw [if_neg hf0] at hgo
              have hf1 : ¬ f.toList = [] := fun e => hf0 ((empty_iff f).1 e)
              have hf2 : f.toList.isEmpty = false := by simpa using hf1
              cases hsub : subOf f.data.toList p.data.toList with
              | none =>
                rw [hsub] at hgo
                simp only at hgo
                have HGO := Lib.hid hgo
                clear hgo hfd
                go_wp2_with (go_at_call 39; refine (refsub_any _ f p (by assumption) sf (by omega)).mono ?_; rintro e w5 ⟨t, rfl, ht, hb5⟩; replace ht := getD_none hsub ht)
                go_ret2
                exact exp_none HGO.out (ACCR.out.trans (hb5.mono ACCR.out.size))
              | some r =>
                rw [hsub] at hgo
                simp only at hgo
                have hrR := sub_isR hsub
                have hrn := realm_nil hrR
                have hr37 := isR_short' hrR
                clear hfd
                cases nl with
                | false =>
                  obtain ⟨U, hU⟩ : ∃ U, U = l := ⟨_, rfl⟩
                  rw [show fillOf cl.data.toList r l p.data.toList false = U from hU.symm] at hgo
                  subst hU
                  obtain ⟨V, hV⟩ : ∃ V, V = addOf U r := ⟨_, rfl⟩
                  rw [← hV] at hgo
                  have hVl : V.length ≤ U.length + 1 := by rw [hV]; exact (addOf_len U r).2
                  have HV := Lib.hid hV
                  have HKA : Hid (∀ W W' ad n c e, AddPost W W' w4.heap.size ad n c U r e → ∃ ad7 c7, e = .returned (.slice ad7 V.length c7) ∧ W'.ownsRow w4.heap.size 9 1 (.slice ad7 V.length c7) V.length (strs V) ∧ Below w4.heap.size W W') := Lib.hid (by rintro W W' ad n c e ⟨ad7, c7, h1, h2, _, h4, _, _⟩; rw [← HV.out] at h1 h2; exact ⟨ad7, c7, h1, h2, h4⟩)
                  clear hV
                  by_cases h8 : 8 < V.length
                  · have h8z : (8 : Int) < (V.length : Int) := by omega
                    rw [if_pos h8] at hgo
                    have HGO := Lib.hid hgo
                    clear hgo
                    go_wp2_with (first | (go_at_call 39; refine (refsub_any _ f p (by assumption) sf (by omega)).mono ?_; rintro e w5 ⟨t, rfl, ht, hb5⟩; replace ht := getD_some hsub ht; have st : t.size < 90000 := (by have e : t.data.toList.length = t.size := rfl; rw [ht] at e; omega); have ht2 : ¬ t.toList = [] := (fun e => hrn (by rw [← ht]; exact (empty_iff t).1 e)); have ht3 : t.toList.isEmpty = false := (by simpa using ht2); have HT := Lib.hid ht; clear ht; have ho5 := own_below HO.out hb5; have hk5 := HB.out.trans (hb5.mono hE1); have hE5 := hk5.size) | (go_at_call 40; refine (refadd_any _ w4.heap.size _ _ _ U t (by assumption) (by omega) (by assumption)).mono ?_; intro e w9 hp9; rw [HT.out] at hp9; obtain ⟨ad9, c9, rfl, ho9, hb9⟩ := HKA.out _ _ _ _ _ _ hp9; clear hp9))
                    go_ret2
                    exact exp_none HGO.out (HACC.out.trans ((hk5.trans hb9).mono hE0))
                  · have h8z : ¬ (8 : Int) < (V.length : Int) := by omega
                    rw [if_neg h8] at hgo
                    have HGO := Lib.hid hgo
                    clear hgo
                    go_wp2_with (first | (go_at_call 39; refine (refsub_any _ f p (by assumption) sf (by omega)).mono ?_; rintro e w5 ⟨t, rfl, ht, hb5⟩; replace ht := getD_some hsub ht; have st : t.size < 90000 := (by have e : t.data.toList.length = t.size := rfl; rw [ht] at e; omega); have ht2 : ¬ t.toList = [] := (fun e => hrn (by rw [← ht]; exact (empty_iff t).1 e)); have ht3 : t.toList.isEmpty = false := (by simpa using ht2); have HT := Lib.hid ht; clear ht; have ho5 := own_below HO.out hb5; have hk5 := HB.out.trans (hb5.mono hE1); have hE5 := hk5.size) | (go_at_call 40; refine (refadd_any _ w4.heap.size _ _ _ U t (by assumption) (by omega) (by assumption)).mono ?_; intro e w9 hp9; rw [HT.out] at hp9; obtain ⟨ad9, c9, rfl, ho9, hb9⟩ := HKA.out _ _ _ _ _ _ hp9; clear hp9))
                    go_roundg (F.length + 1 - (i + 1))
                    case measure => omega
                    case rel => exact ⟨i + 1, ad9, c9, V, t, false, by omega, by omega, rfl, rfl, rfl, by go_num, by omega, by have e : t.data.toList.length = t.size := rfl; rw [HT.out] at e; omega, ho9, hk5.trans hb9, fun _ => by rw [HT.out]; exact HGO.out, fun h => by omega⟩
                | true =>
                  by_cases hp0 : p.data.toList = []
                  · have hp1 := (empty_iff p).2 hp0
                    obtain ⟨fr, hfr, sfr, hfe⟩ : ∃ fr : ByteArray, fr = (if p.data.toList = [] then cl else p) ∧ fr.size < 90000 ∧ fr = cl := ⟨_, rfl, by split <;> omega, if_pos hp0⟩
                    obtain ⟨R, hR⟩ : ∃ R, R = betOf fr.data.toList r := ⟨_, rfl⟩
                    have hR6 : R.length ≤ 6 := by rw [hR]; exact betOf_six _ _
                    have HRR := Lib.hid hR
                    obtain ⟨U, hU⟩ : ∃ U, U = addsOf l R := ⟨_, rfl⟩
                    have hUl : U.length ≤ 14 := by rw [hU]; have := (addsOf_len l R).2; omega
                    have hfi : fillOf cl.data.toList r l p.data.toList true = U := by
                      rw [hU, hR]
                      unfold fillOf
                      rw [if_pos rfl, hfr]
                      split <;> rfl
                    rw [hfi] at hgo
                    have HU := Lib.hid hU
                    have HKB : Hid (∀ W W' e, W.ownsRow w4.heap.size 9 1 (.slice ad l.length c) l.length (strs l) → Below w4.heap.size w4 W → BetPost W W' fr.data.toList r e → ∃ ad2 c2, e = .returned (.slice ad2 R.length c2) ∧ At W' ad2 R.length R ∧ (0 < R.length → Apart ad ad2) ∧ W'.ownsRow w4.heap.size 9 1 (.slice ad l.length c) l.length (strs l) ∧ Below w4.heap.size w4 W') := Lib.hid (by
                      rintro W W' e g1 g2 ⟨ad2, c2, h1, h2, h3⟩
                      rw [← HRR.out] at h1 h2
                      exact ⟨ad2, c2, h1, At.owns h2, fun h0 => own_apart h2 h0 (own_lt g1), own_below g1 h3, g2.trans (h3.mono g2.size)⟩)
                    clear hR hU hfi hfr
                    obtain ⟨V, hV⟩ : ∃ V, V = addOf U r := ⟨_, rfl⟩
                    rw [← hV] at hgo
                    have hVl : V.length ≤ U.length + 1 := by rw [hV]; exact (addOf_len U r).2
                    have HV := Lib.hid hV
                    have HKA : Hid (∀ W W' ad n c e, AddPost W W' w4.heap.size ad n c U r e → ∃ ad7 c7, e = .returned (.slice ad7 V.length c7) ∧ W'.ownsRow w4.heap.size 9 1 (.slice ad7 V.length c7) V.length (strs V) ∧ Below w4.heap.size W W') := Lib.hid (by rintro W W' ad n c e ⟨ad7, c7, h1, h2, _, h4, _, _⟩; rw [← HV.out] at h1 h2; exact ⟨ad7, c7, h1, h2, h4⟩)
                    clear hV
                    go_wp2_with (first | (go_at_call 39; refine (refsub_any _ f p (by assumption) sf (by omega)).mono ?_; rintro e w5 ⟨t, rfl, ht, hb5⟩; replace ht := getD_some hsub ht; have st : t.size < 90000 := (by have e : t.data.toList.length = t.size := rfl; rw [ht] at e; omega); have ht2 : ¬ t.toList = [] := (fun e => hrn (by rw [← ht]; exact (empty_iff t).1 e)); have ht3 : t.toList.isEmpty = false := (by simpa using ht2); have HT := Lib.hid ht; clear ht; have ho5 := own_below HO.out hb5; have hk5 := HB.out.trans (hb5.mono hE1)) | (go_at_call 15; refine (refbet_any _ _ _ (by omega) (by assumption)).mono ?_; intro e w6 hp; rw [HT.out, ← hfe] at hp; obtain ⟨ad2, c2, rfl, hA6, hf6, ho6, hk6⟩ := HKB.out _ _ _ ho5 hk5 hp; clear hp))
                    have HA6 := Lib.hid hA6
                    have HF6 := Lib.hid hf6
                    have HO6 := Lib.hid ho6
                    have HK6 := Lib.hid hk6
                    clear hA6 hf6 ho6 hk6
                    go_loopg [9, 16] R.length (fun gg s9 s16 wr => ∃ (k : Nat) (ad3 : Option Addr) (c3 : Nat), k ≤ R.length ∧ R.length - k ≤ gg ∧ s9 = .slice ad3 (addsOf l (R.take k)).length c3 ∧ s16 = .int .i64 k ∧ Aside (wr.ownsRow w4.heap.size 9 1 (.slice ad3 (addsOf l (R.take k)).length c3) (addsOf l (R.take k)).length (strs (addsOf l (R.take k)))) ∧ Aside (At wr ad2 R.length R) ∧ Aside (0 < R.length → Apart ad3 ad2) ∧ Aside (Below w4.heap.size w4 wr))
                    case atStart => exact ⟨0, ad, c, by omega, by omega, rfl, rfl, HO6.out, HA6.out, HF6.out, HK6.out⟩
                    case round =>
                      obtain ⟨k, ad3, c3, hk, hgg3, rfl, rfl, HO3, HA3, HF3, HK3⟩ := hrel
                      have hlen := (addsOf_len l (R.take k)).2
                      rw [List.length_take] at hlen
                      have hE3 : w4.heap.size ≤ wr.heap.size := HK3.out.size
                      by_cases hlt3 : k < R.length
                      · have hltz3 : (k : Int) < (R.length : Int) := by omega
                        obtain ⟨bk3, off3, hbk3, hbl3, hc3⟩ := HA3.out.cell (by omega)
                        obtain ⟨x, hxx⟩ : ∃ x : ByteArray, x = ⟨R[k]!.toArray⟩ := ⟨_, rfl⟩
                        have hxd : x.data.toList = R[k]! := by rw [hxx]
                        have kx := hc3 k hlt3
                        rw [← hxx] at kx
                        have hN := addsOf_next (l := l) hlt3
                        rw [← hxd] at hN
                        have HN := Lib.hid hN
                        have HBK3 := Lib.hid hbk3
                        subst hbk3
                        clear hc3 hxx hxd hN
                        go_wp2_with (go_at_call 40; refine (refadd_any _ w4.heap.size _ _ _ (addsOf l (R.take k)) x HO3.out (by omega) hE3).mono ?_; intro e w8 hp8; have hs8 := hp8.bel; obtain ⟨ad8, c8, rfl, ho8, hb8, hA8, hf8⟩ := add_row hp8 HA3.out HF3.out (hs8 hE3 HO3.out); clear hp8 hs8)
                        go_roundg (R.length - (k + 1))
                        case measure => omega
                        case rel => exact ⟨k + 1, ad8, c8, by omega, by omega, by rw [HN.out], by go_num, by rw [HN.out]; exact ho8, hA8, hf8, HK3.out.trans hb8⟩
                      · have hkm : k = R.length := by omega
                        subst hkm
                        rw [List.take_length, ← HU.out] at HO3
                        rw [List.take_length, ← HU.out]
                        clear hlen
                        have ho3 := HO3.out
                        by_cases h8 : 8 < V.length
                        · have h8z : (8 : Int) < (V.length : Int) := by omega
                          rw [if_pos h8] at hgo
                          have HGO := Lib.hid hgo
                          clear hgo
                          go_wp2_with (first | (go_at_call 40; refine (refadd_any _ w4.heap.size _ _ _ U t (by assumption) (by omega) (by assumption)).mono ?_; intro e w9 hp9; rw [HT.out] at hp9; obtain ⟨ad9, c9, rfl, ho9, hb9⟩ := HKA.out _ _ _ _ _ _ hp9; clear hp9))
                          go_ret2
                          exact exp_none HGO.out (HACC.out.trans ((HK3.out.trans hb9).mono hE0))
                        · have h8z : ¬ (8 : Int) < (V.length : Int) := by omega
                          rw [if_neg h8] at hgo
                          have HGO := Lib.hid hgo
                          clear hgo
                          go_wp2_with (first | (go_at_call 40; refine (refadd_any _ w4.heap.size _ _ _ U t (by assumption) (by omega) (by assumption)).mono ?_; intro e w9 hp9; rw [HT.out] at hp9; obtain ⟨ad9, c9, rfl, ho9, hb9⟩ := HKA.out _ _ _ _ _ _ hp9; clear hp9))
                          go_roundg (F.length + 1 - (i + 1))
                          case measure => omega
                          case rel => exact ⟨i + 1, ad9, c9, V, t, false, by omega, by omega, rfl, rfl, rfl, by go_num, by omega, by have e : t.data.toList.length = t.size := rfl; rw [HT.out] at e; omega, ho9, HK3.out.trans hb9, fun _ => by rw [HT.out]; exact HGO.out, fun h => by omega⟩
                  · have hp1 : ¬ p.toList = [] := fun e => hp0 ((empty_iff p).1 e)
                    have hp2 : p.toList.isEmpty = false := by simpa using hp1
                    obtain ⟨fr, hfr, sfr, hfe⟩ : ∃ fr : ByteArray, fr = (if p.data.toList = [] then cl else p) ∧ fr.size < 90000 ∧ fr = p := ⟨_, rfl, by split <;> omega, if_neg hp0⟩
                    obtain ⟨R, hR⟩ : ∃ R, R = betOf fr.data.toList r := ⟨_, rfl⟩
                    have hR6 : R.length ≤ 6 := by rw [hR]; exact betOf_six _ _
                    have HRR := Lib.hid hR
                    obtain ⟨U, hU⟩ : ∃ U, U = addsOf l R := ⟨_, rfl⟩
                    have hUl : U.length ≤ 14 := by rw [hU]; have := (addsOf_len l R).2; omega
                    have hfi : fillOf cl.data.toList r l p.data.toList true = U := by
                      rw [hU, hR]
                      unfold fillOf
                      rw [if_pos rfl, hfr]
                      split <;> rfl
                    rw [hfi] at hgo
                    have HU := Lib.hid hU
                    have HKB : Hid (∀ W W' e, W.ownsRow w4.heap.size 9 1 (.slice ad l.length c) l.length (strs l) → Below w4.heap.size w4 W → BetPost W W' fr.data.toList r e → ∃ ad2 c2, e = .returned (.slice ad2 R.length c2) ∧ At W' ad2 R.length R ∧ (0 < R.length → Apart ad ad2) ∧ W'.ownsRow w4.heap.size 9 1 (.slice ad l.length c) l.length (strs l) ∧ Below w4.heap.size w4 W') := Lib.hid (by
                      rintro W W' e g1 g2 ⟨ad2, c2, h1, h2, h3⟩
                      rw [← HRR.out] at h1 h2
                      exact ⟨ad2, c2, h1, At.owns h2, fun h0 => own_apart h2 h0 (own_lt g1), own_below g1 h3, g2.trans (h3.mono g2.size)⟩)
                    clear hR hU hfi hfr
                    obtain ⟨V, hV⟩ : ∃ V, V = addOf U r := ⟨_, rfl⟩
                    rw [← hV] at hgo
                    have hVl : V.length ≤ U.length + 1 := by rw [hV]; exact (addOf_len U r).2
                    have HV := Lib.hid hV
                    have HKA : Hid (∀ W W' ad n c e, AddPost W W' w4.heap.size ad n c U r e → ∃ ad7 c7, e = .returned (.slice ad7 V.length c7) ∧ W'.ownsRow w4.heap.size 9 1 (.slice ad7 V.length c7) V.length (strs V) ∧ Below w4.heap.size W W') := Lib.hid (by rintro W W' ad n c e ⟨ad7, c7, h1, h2, _, h4, _, _⟩; rw [← HV.out] at h1 h2; exact ⟨ad7, c7, h1, h2, h4⟩)
                    clear hV
                    go_wp2_with (first | (go_at_call 39; refine (refsub_any _ f p (by assumption) sf (by omega)).mono ?_; rintro e w5 ⟨t, rfl, ht, hb5⟩; replace ht := getD_some hsub ht; have st : t.size < 90000 := (by have e : t.data.toList.length = t.size := rfl; rw [ht] at e; omega); have ht2 : ¬ t.toList = [] := (fun e => hrn (by rw [← ht]; exact (empty_iff t).1 e)); have ht3 : t.toList.isEmpty = false := (by simpa using ht2); have HT := Lib.hid ht; clear ht; have ho5 := own_below HO.out hb5; have hk5 := HB.out.trans (hb5.mono hE1)) | (go_at_call 15; refine (refbet_any _ _ _ (by omega) (by assumption)).mono ?_; intro e w6 hp; rw [HT.out, ← hfe] at hp; obtain ⟨ad2, c2, rfl, hA6, hf6, ho6, hk6⟩ := HKB.out _ _ _ ho5 hk5 hp; clear hp))
                    have HA6 := Lib.hid hA6
                    have HF6 := Lib.hid hf6
                    have HO6 := Lib.hid ho6
                    have HK6 := Lib.hid hk6
                    clear hA6 hf6 ho6 hk6
                    go_loopg [9, 16] R.length (fun gg s9 s16 wr => ∃ (k : Nat) (ad3 : Option Addr) (c3 : Nat), k ≤ R.length ∧ R.length - k ≤ gg ∧ s9 = .slice ad3 (addsOf l (R.take k)).length c3 ∧ s16 = .int .i64 k ∧ Aside (wr.ownsRow w4.heap.size 9 1 (.slice ad3 (addsOf l (R.take k)).length c3) (addsOf l (R.take k)).length (strs (addsOf l (R.take k)))) ∧ Aside (At wr ad2 R.length R) ∧ Aside (0 < R.length → Apart ad3 ad2) ∧ Aside (Below w4.heap.size w4 wr))
                    case atStart => exact ⟨0, ad, c, by omega, by omega, rfl, rfl, HO6.out, HA6.out, HF6.out, HK6.out⟩
                    case round =>
                      obtain ⟨k, ad3, c3, hk, hgg3, rfl, rfl, HO3, HA3, HF3, HK3⟩ := hrel
                      have hlen := (addsOf_len l (R.take k)).2
                      rw [List.length_take] at hlen
                      have hE3 : w4.heap.size ≤ wr.heap.size := HK3.out.size
                      by_cases hlt3 : k < R.length
                      · have hltz3 : (k : Int) < (R.length : Int) := by omega
                        obtain ⟨bk3, off3, hbk3, hbl3, hc3⟩ := HA3.out.cell (by omega)
                        obtain ⟨x, hxx⟩ : ∃ x : ByteArray, x = ⟨R[k]!.toArray⟩ := ⟨_, rfl⟩
                        have hxd : x.data.toList = R[k]! := by rw [hxx]
                        have kx := hc3 k hlt3
                        rw [← hxx] at kx
                        have hN := addsOf_next (l := l) hlt3
                        rw [← hxd] at hN
                        have HN := Lib.hid hN
                        have HBK3 := Lib.hid hbk3
                        subst hbk3
                        clear hc3 hxx hxd hN
                        go_wp2_with (go_at_call 40; refine (refadd_any _ w4.heap.size _ _ _ (addsOf l (R.take k)) x HO3.out (by omega) hE3).mono ?_; intro e w8 hp8; have hs8 := hp8.bel; obtain ⟨ad8, c8, rfl, ho8, hb8, hA8, hf8⟩ := add_row hp8 HA3.out HF3.out (hs8 hE3 HO3.out); clear hp8 hs8)
                        go_roundg (R.length - (k + 1))
                        case measure => omega
                        case rel => exact ⟨k + 1, ad8, c8, by omega, by omega, by rw [HN.out], by go_num, by rw [HN.out]; exact ho8, hA8, hf8, HK3.out.trans hb8⟩
                      · have hkm : k = R.length := by omega
                        subst hkm
                        rw [List.take_length, ← HU.out] at HO3
                        rw [List.take_length, ← HU.out]
                        clear hlen
                        have ho3 := HO3.out
                        by_cases h8 : 8 < V.length
                        · have h8z : (8 : Int) < (V.length : Int) := by omega
                          rw [if_pos h8] at hgo
                          have HGO := Lib.hid hgo
                          clear hgo
                          go_wp2_with (first | (go_at_call 40; refine (refadd_any _ w4.heap.size _ _ _ U t (by assumption) (by omega) (by assumption)).mono ?_; intro e w9 hp9; rw [HT.out] at hp9; obtain ⟨ad9, c9, rfl, ho9, hb9⟩ := HKA.out _ _ _ _ _ _ hp9; clear hp9))
                          go_ret2
                          exact exp_none HGO.out (HACC.out.trans ((HK3.out.trans hb9).mono hE0))
                        · have h8z : ¬ (8 : Int) < (V.length : Int) := by omega
                          rw [if_neg h8] at hgo
                          have HGO := Lib.hid hgo
                          clear hgo
                          go_wp2_with (first | (go_at_call 40; refine (refadd_any _ w4.heap.size _ _ _ U t (by assumption) (by omega) (by assumption)).mono ?_; intro e w9 hp9; rw [HT.out] at hp9; obtain ⟨ad9, c9, rfl, ho9, hb9⟩ := HKA.out _ _ _ _ _ _ hp9; clear hp9))
                          go_roundg (F.length + 1 - (i + 1))
                          case measure => omega
                          case rel => exact ⟨i + 1, ad9, c9, V, t, false, by omega, by omega, rfl, rfl, rfl, by go_num, by omega, by have e : t.data.toList.length = t.size := rfl; rw [HT.out] at e; omega, ho9, HK3.out.trans hb9, fun _ => by rw [HT.out]; exact HGO.out, fun h => by omega⟩
          · by_cases hiF : i = F.length
            · subst hiF
              have hltz : ¬ (F.length : Int) < (F.length : Int) := by omega
              have hgo := HGO.out (Nat.le_refl _)
              rw [List.drop_length, exGo_nil] at hgo
              clear HGO HEND
              cases nl with
              | false =>
                obtain ⟨U, hU⟩ : ∃ U, U = l := ⟨_, rfl⟩
                rw [show fillOf cl.data.toList sv.data.toList l p.data.toList false = U from hU.symm] at hgo
                subst hU
                by_cases h8 : 8 < U.length
                · have h8z : (8 : Int) < (U.length : Int) := by omega
                  rw [if_pos h8] at hgo
                  have HGO := Lib.hid hgo
                  clear hgo
                  go_wp2
                  go_ret2
                  exact exp_none HGO.out (HACC.out.trans (HB.out.mono hE0))
                · have h8z : ¬ (8 : Int) < (U.length : Int) := by omega
                  rw [if_neg h8] at hgo
                  have HGO := Lib.hid hgo
                  clear hgo
                  go_wp2
                  go_roundg (F.length + 1 - (F.length + 1))
                  case measure => omega
                  case rel => exact ⟨F.length + 1, ad, c, U, p, false, by omega, by omega, rfl, rfl, rfl, by go_num, by omega, hp37, HO.out, HB.out, fun h => by omega, fun _ => HGO.out⟩
              | true =>
                by_cases hp0 : p.data.toList = []
                · have hp1 := (empty_iff p).2 hp0
                  obtain ⟨fr, hfr, sfr, hfe⟩ : ∃ fr : ByteArray, fr = (if p.data.toList = [] then cl else p) ∧ fr.size < 90000 ∧ fr = cl := ⟨_, rfl, by split <;> omega, if_pos hp0⟩
                  obtain ⟨R, hR⟩ : ∃ R, R = betOf fr.data.toList sv.data.toList := ⟨_, rfl⟩
                  have hR6 : R.length ≤ 6 := by rw [hR]; exact betOf_six _ _
                  have HRR := Lib.hid hR
                  obtain ⟨U, hU⟩ : ∃ U, U = addsOf l R := ⟨_, rfl⟩
                  have hUl : U.length ≤ 14 := by rw [hU]; have := (addsOf_len l R).2; omega
                  have hfi : fillOf cl.data.toList sv.data.toList l p.data.toList true = U := by
                    rw [hU, hR]
                    unfold fillOf
                    rw [if_pos rfl, hfr]
                    split <;> rfl
                  rw [hfi] at hgo
                  have HU := Lib.hid hU
                  have HKB : Hid (∀ W W' e, W.ownsRow w4.heap.size 9 1 (.slice ad l.length c) l.length (strs l) → Below w4.heap.size w4 W → BetPost W W' fr.data.toList sv.data.toList e → ∃ ad2 c2, e = .returned (.slice ad2 R.length c2) ∧ At W' ad2 R.length R ∧ (0 < R.length → Apart ad ad2) ∧ W'.ownsRow w4.heap.size 9 1 (.slice ad l.length c) l.length (strs l) ∧ Below w4.heap.size w4 W') := Lib.hid (by
                    rintro W W' e g1 g2 ⟨ad2, c2, h1, h2, h3⟩
                    rw [← HRR.out] at h1 h2
                    exact ⟨ad2, c2, h1, At.owns h2, fun h0 => own_apart h2 h0 (own_lt g1), own_below g1 h3, g2.trans (h3.mono g2.size)⟩)
                  clear hR hU hfi hfr
                  go_wp2_with (first | (go_at_call 15; refine (refbet_any _ _ _ (by omega) (by assumption)).mono ?_; intro e w6 hp; rw [← hfe] at hp; obtain ⟨ad2, c2, rfl, hA6, hf6, ho6, hk6⟩ := HKB.out _ _ _ HO.out HB.out hp; clear hp))
                  have HA6 := Lib.hid hA6
                  have HF6 := Lib.hid hf6
                  have HO6 := Lib.hid ho6
                  have HK6 := Lib.hid hk6
                  clear hA6 hf6 ho6 hk6
                  go_loopg [9, 16] R.length (fun gg s9 s16 wr => ∃ (k : Nat) (ad3 : Option Addr) (c3 : Nat), k ≤ R.length ∧ R.length - k ≤ gg ∧ s9 = .slice ad3 (addsOf l (R.take k)).length c3 ∧ s16 = .int .i64 k ∧ Aside (wr.ownsRow w4.heap.size 9 1 (.slice ad3 (addsOf l (R.take k)).length c3) (addsOf l (R.take k)).length (strs (addsOf l (R.take k)))) ∧ Aside (At wr ad2 R.length R) ∧ Aside (0 < R.length → Apart ad3 ad2) ∧ Aside (Below w4.heap.size w4 wr))
                  case atStart => exact ⟨0, ad, c, by omega, by omega, rfl, rfl, HO6.out, HA6.out, HF6.out, HK6.out⟩
                  case round =>
                    obtain ⟨k, ad3, c3, hk, hgg3, rfl, rfl, HO3, HA3, HF3, HK3⟩ := hrel
                    have hlen := (addsOf_len l (R.take k)).2
                    rw [List.length_take] at hlen
                    have hE3 : w4.heap.size ≤ wr.heap.size := HK3.out.size
                    by_cases hlt3 : k < R.length
                    · have hltz3 : (k : Int) < (R.length : Int) := by omega
                      obtain ⟨bk3, off3, hbk3, hbl3, hc3⟩ := HA3.out.cell (by omega)
                      obtain ⟨x, hxx⟩ : ∃ x : ByteArray, x = ⟨R[k]!.toArray⟩ := ⟨_, rfl⟩
                      have hxd : x.data.toList = R[k]! := by rw [hxx]
                      have kx := hc3 k hlt3
                      rw [← hxx] at kx
                      have hN := addsOf_next (l := l) hlt3
                      rw [← hxd] at hN
                      have HN := Lib.hid hN
                      have HBK3 := Lib.hid hbk3
                      subst hbk3
                      clear hc3 hxx hxd hN
                      go_wp2_with (go_at_call 40; refine (refadd_any _ w4.heap.size _ _ _ (addsOf l (R.take k)) x HO3.out (by omega) hE3).mono ?_; intro e w8 hp8; have hs8 := hp8.bel; obtain ⟨ad8, c8, rfl, ho8, hb8, hA8, hf8⟩ := add_row hp8 HA3.out HF3.out (hs8 hE3 HO3.out); clear hp8 hs8)
                      go_roundg (R.length - (k + 1))
                      case measure => omega
                      case rel => exact ⟨k + 1, ad8, c8, by omega, by omega, by rw [HN.out], by go_num, by rw [HN.out]; exact ho8, hA8, hf8, HK3.out.trans hb8⟩
                    · have hkm : k = R.length := by omega
                      subst hkm
                      rw [List.take_length, ← HU.out] at HO3
                      rw [List.take_length, ← HU.out]
                      clear hlen
                      have ho3 := HO3.out
                      by_cases h8 : 8 < U.length
                      · have h8z : (8 : Int) < (U.length : Int) := by omega
                        rw [if_pos h8] at hgo
                        have HGO := Lib.hid hgo
                        clear hgo
                        go_wp2
                        go_ret2
                        exact exp_none HGO.out (HACC.out.trans (HK3.out.mono hE0))
                      · have h8z : ¬ (8 : Int) < (U.length : Int) := by omega
                        rw [if_neg h8] at hgo
                        have HGO := Lib.hid hgo
                        clear hgo
                        go_wp2
                        go_roundg (F.length + 1 - (F.length + 1))
                        case measure => omega
                        case rel => exact ⟨F.length + 1, ad3, c3, U, p, false, by omega, by omega, rfl, rfl, rfl, by go_num, by omega, hp37, ho3, HK3.out, fun h => by omega, fun _ => HGO.out⟩
                · have hp1 : ¬ p.toList = [] := fun e => hp0 ((empty_iff p).1 e)
                  have hp2 : p.toList.isEmpty = false := by simpa using hp1
                  obtain ⟨fr, hfr, sfr, hfe⟩ : ∃ fr : ByteArray, fr = (if p.data.toList = [] then cl else p) ∧ fr.size < 90000 ∧ fr = p := ⟨_, rfl, by split <;> omega, if_neg hp0⟩
                  obtain ⟨R, hR⟩ : ∃ R, R = betOf fr.data.toList sv.data.toList := ⟨_, rfl⟩
                  have hR6 : R.length ≤ 6 := by rw [hR]; exact betOf_six _ _
                  have HRR := Lib.hid hR
                  obtain ⟨U, hU⟩ : ∃ U, U = addsOf l R := ⟨_, rfl⟩
                  have hUl : U.length ≤ 14 := by rw [hU]; have := (addsOf_len l R).2; omega
                  have hfi : fillOf cl.data.toList sv.data.toList l p.data.toList true = U := by
                    rw [hU, hR]
                    unfold fillOf
                    rw [if_pos rfl, hfr]
                    split <;> rfl
                  rw [hfi] at hgo
                  have HU := Lib.hid hU
                  have HKB : Hid (∀ W W' e, W.ownsRow w4.heap.size 9 1 (.slice ad l.length c) l.length (strs l) → Below w4.heap.size w4 W → BetPost W W' fr.data.toList sv.data.toList e → ∃ ad2 c2, e = .returned (.slice ad2 R.length c2) ∧ At W' ad2 R.length R ∧ (0 < R.length → Apart ad ad2) ∧ W'.ownsRow w4.heap.size 9 1 (.slice ad l.length c) l.length (strs l) ∧ Below w4.heap.size w4 W') := Lib.hid (by
                    rintro W W' e g1 g2 ⟨ad2, c2, h1, h2, h3⟩
                    rw [← HRR.out] at h1 h2
                    exact ⟨ad2, c2, h1, At.owns h2, fun h0 => own_apart h2 h0 (own_lt g1), own_below g1 h3, g2.trans (h3.mono g2.size)⟩)
                  clear hR hU hfi hfr
                  go_wp2_with (first | (go_at_call 15; refine (refbet_any _ _ _ (by omega) (by assumption)).mono ?_; intro e w6 hp; rw [← hfe] at hp; obtain ⟨ad2, c2, rfl, hA6, hf6, ho6, hk6⟩ := HKB.out _ _ _ HO.out HB.out hp; clear hp))
                  have HA6 := Lib.hid hA6
                  have HF6 := Lib.hid hf6
                  have HO6 := Lib.hid ho6
                  have HK6 := Lib.hid hk6
                  clear hA6 hf6 ho6 hk6
                  go_loopg [9, 16] R.length (fun gg s9 s16 wr => ∃ (k : Nat) (ad3 : Option Addr) (c3 : Nat), k ≤ R.length ∧ R.length - k ≤ gg ∧ s9 = .slice ad3 (addsOf l (R.take k)).length c3 ∧ s16 = .int .i64 k ∧ Aside (wr.ownsRow w4.heap.size 9 1 (.slice ad3 (addsOf l (R.take k)).length c3) (addsOf l (R.take k)).length (strs (addsOf l (R.take k)))) ∧ Aside (At wr ad2 R.length R) ∧ Aside (0 < R.length → Apart ad3 ad2) ∧ Aside (Below w4.heap.size w4 wr))
                  case atStart => exact ⟨0, ad, c, by omega, by omega, rfl, rfl, HO6.out, HA6.out, HF6.out, HK6.out⟩
                  case round =>
                    obtain ⟨k, ad3, c3, hk, hgg3, rfl, rfl, HO3, HA3, HF3, HK3⟩ := hrel
                    have hlen := (addsOf_len l (R.take k)).2
                    rw [List.length_take] at hlen
                    have hE3 : w4.heap.size ≤ wr.heap.size := HK3.out.size
                    by_cases hlt3 : k < R.length
                    · have hltz3 : (k : Int) < (R.length : Int) := by omega
                      obtain ⟨bk3, off3, hbk3, hbl3, hc3⟩ := HA3.out.cell (by omega)
                      obtain ⟨x, hxx⟩ : ∃ x : ByteArray, x = ⟨R[k]!.toArray⟩ := ⟨_, rfl⟩
                      have hxd : x.data.toList = R[k]! := by rw [hxx]
                      have kx := hc3 k hlt3
                      rw [← hxx] at kx
                      have hN := addsOf_next (l := l) hlt3
                      rw [← hxd] at hN
                      have HN := Lib.hid hN
                      have HBK3 := Lib.hid hbk3
                      subst hbk3
                      clear hc3 hxx hxd hN
                      go_wp2_with (go_at_call 40; refine (refadd_any _ w4.heap.size _ _ _ (addsOf l (R.take k)) x HO3.out (by omega) hE3).mono ?_; intro e w8 hp8; have hs8 := hp8.bel; obtain ⟨ad8, c8, rfl, ho8, hb8, hA8, hf8⟩ := add_row hp8 HA3.out HF3.out (hs8 hE3 HO3.out); clear hp8 hs8)
                      go_roundg (R.length - (k + 1))
                      case measure => omega
                      case rel => exact ⟨k + 1, ad8, c8, by omega, by omega, by rw [HN.out], by go_num, by rw [HN.out]; exact ho8, hA8, hf8, HK3.out.trans hb8⟩
                    · have hkm : k = R.length := by omega
                      subst hkm
                      rw [List.take_length, ← HU.out] at HO3
                      rw [List.take_length, ← HU.out]
                      clear hlen
                      have ho3 := HO3.out
                      by_cases h8 : 8 < U.length
                      · have h8z : (8 : Int) < (U.length : Int) := by omega
                        rw [if_pos h8] at hgo
                        have HGO := Lib.hid hgo
                        clear hgo
                        go_wp2
                        go_ret2
                        exact exp_none HGO.out (HACC.out.trans (HK3.out.mono hE0))
                      · have h8z : ¬ (8 : Int) < (U.length : Int) := by omega
                        rw [if_neg h8] at hgo
                        have HGO := Lib.hid hgo
                        clear hgo
                        go_wp2
                        go_roundg (F.length + 1 - (F.length + 1))
                        case measure => omega
                        case rel => exact ⟨F.length + 1, ad3, c3, U, p, false, by omega, by omega, rfl, rfl, rfl, by go_num, by omega, hp37, ho3, HK3.out, fun h => by omega, fun _ => HGO.out⟩
            · have hi1 : i = F.length + 1 := by omega
              have hltz : ¬ (i : Int) ≤ (F.length : Int) := by omega
              have HE := Lib.hid (HEND.out hi1)
              clear HGO HEND
              go_wp2
              go_ret2
              exact ⟨ad, c, by rw [HE.out]; rfl, by rw [HE.out]; exact own_mono HO.out hE0, ACCR.out⟩
end Go.Proofs.YtjbdegcmolimoaaDoor
