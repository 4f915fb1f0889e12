/-
  transit.Expand.
-/
import Derived.Test.YtjbdegcmolimoaaDoorTrEx
import Derived.Test.YtjbdegcmolimoaaDoorApp2
set_option linter.unusedVariables false
set_option linter.unusedSimpArgs false
namespace Go.Proofs.YtjbdegcmolimoaaDoor
open Go Go.RowKit Go.Lib Go.Shelf

theorem own_mono {w : World} {base base' : Nat} {v : Value} {n : Nat} {l : List Value} (h : w.ownsRow base 9 1 v n l) (hb : base' ≤ base) : w.ownsRow base' 9 1 v n l := by
  refine ⟨h.1, ?_⟩
  rcases h.2 with h2 | ⟨g, cap, cur, h2, h3, h4⟩
  · exact .inl h2
  · exact .inr ⟨g, cap, cur, h2, Nat.le_trans hb h3, h4⟩

theorem ex_new (w3 w4 : World) (hb : Below (w3.alloc (.cells #[.slice none 0 0, .string ⟨#[]⟩, .bool false] 54)).heap.size (w3.alloc (.cells #[.slice none 0 0, .string ⟨#[]⟩, .bool false] 54)) w4) : Ex w4 w3.heap.size w4.heap.size none 0 [] ⟨#[]⟩ false := by
  have hh : (w3.alloc (.cells #[.slice none 0 0, .string ⟨#[]⟩, .bool false] 54)).heap.size = w3.heap.size + 1 := by simp
  have hn := heap_alloc_new w3 (.cells #[.slice none 0 0, .string ⟨#[]⟩, .bool false] 54)
  have hlt : w3.heap.size < w3.heap.size + 1 := Nat.lt_succ_self _
  rw [hh] at hb
  have h4 : w4.heap[w3.heap.size]? = _ := (hb.block w3.heap.size hlt).trans hn
  refine ⟨World.ownsRow_nil _ _ _ _, ?_, ?_, ?_, ?_, Nat.lt_of_lt_of_le hlt (by have := hb.size; rw [hh] at this; exact this), Nat.le_refl _⟩
  · exact (cell_of_row _ _ _ _ _ _ h4).trans rfl
  · exact (cell_of_row _ _ _ _ _ _ h4).trans rfl
  · exact (cell_of_row _ _ _ _ _ _ h4).trans rfl
  · intro k
    simp only [World.frozen?, h4]
    simp

def ExpPost (w w' : World) (x : List Str × Nat) (e : Ending) : Prop := ∃ ad c, e = .returned (.tuple #[.slice ad x.1.length c, .int .i64 x.2]) ∧ w'.ownsRow w.heap.size 9 1 (.slice ad x.1.length c) x.1.length (strs x.1) ∧ Below w.heap.size w w'
theorem exp_none {w w' : World} {x : List Str × Nat} {k : Nat} (h : x = ([], k)) (hb : Below w.heap.size w w') : ExpPost w w' x (.returned (.tuple #[.slice none 0 0, .int .i64 k])) := by
  subst h
  exact ⟨none, 0, rfl, World.ownsRow_nil _ _ _ _, hb⟩

theorem sub_isR {s p r : Str} (h : subOf s p = some r) : isR r = true := by
  unfold subOf at h
  split at h
  · cases h
  · split at h
    · rename_i h1
      simp only [Option.some.injEq] at h
      rw [← h]
      exact h1
    · cases h
theorem part_len (c : UInt8) (s : Str) : ∀ x ∈ splitOn c s, x.length ≤ s.length := by
  induction s with
  | nil => intro x hx; simp [splitOn] at hx; simp [hx]
  | cons b s ih =>
    intro x hx
    rw [splitOn] at hx
    split at hx
    · rw [List.mem_cons] at hx
      rcases hx with rfl | hx
      · simp
      · have := ih x hx
        simp only [List.length_cons]; omega
    · split at hx
      · rename_i h
        exact absurd h (splitOn_ne c s)
      · rename_i y r h
        rw [List.mem_cons] at hx
        rcases hx with rfl | hx
        · have := ih y (by rw [h]; simp)
          simp only [List.length_cons]; omega
        · have := ih x (by rw [h]; simp [hx])
          simp only [List.length_cons]; omega

set_option maxHeartbeats 4000000 in
set_option maxRecDepth 1000000 in
theorem expand_any (w : World) (s cl sv : ByteArray) (hg : Glob w) (ss : s.size < 70000) (sc : cl.size < 90000) (sn : sv.size < 90000) :
    Calls Tryd.prog 17 #[.string s, .string cl, .string sv] w fun e w' => ExpPost w w' (expandOf s.data.toList cl.data.toList sv.data.toList) e := by
  have acc : Below w.heap.size w w := Below.refl _ _
  have HG := Lib.hid hg
  have hgl := hg.lt
  clear hg
  cases hx : isR cl.data.toList with
  | false =>
    have hr := Lib.hid (ends_expand (s := s.data.toList) (b := sv.data.toList) (.inl hx))
    go_enter Tryd.func17, Tryd.ntmps17
    go_wp2_with (go_at_call 28; refine (is_any _ _ (HG.out.below acc) (by assumption)).mono ?_; rintro e w2 ⟨rfl, hb⟩; rw [hx]; replace acc := acc.trans (hb.mono acc.size); clear hb)
    go_ret2
    exact exp_none hr.out acc
  | true =>
    cases hy : isR sv.data.toList with
    | false =>
      have hr := Lib.hid (ends_expand (s := s.data.toList) (a := cl.data.toList) (.inr hy))
      go_enter Tryd.func17, Tryd.ntmps17
      go_wp2_with (go_at_call 28; refine (is_any _ _ (HG.out.below acc) (by assumption)).mono ?_; rintro e w2 ⟨rfl, hb⟩; (first | rw [hx] | rw [hy]); replace acc := acc.trans (hb.mono acc.size); clear hb)
      go_ret2
      exact exp_none hr.out acc
    | true =>
      by_cases h0 : s.data.toList = []
      · have hs0 := (empty_iff s).2 h0
        have hr : expandOf s.data.toList cl.data.toList sv.data.toList = ([], 0) := by
          unfold expandOf
          rw [if_neg (by rw [hx, hy]; simp), if_pos h0]
        have HR := Lib.hid hr
        clear hr h0
        go_enter Tryd.func17, Tryd.ntmps17
        go_wp2_with (go_at_call 28; refine (is_any _ _ (HG.out.below acc) (by assumption)).mono ?_; rintro e w2 ⟨rfl, hb⟩; (first | rw [hx] | rw [hy]); replace acc := acc.trans (hb.mono acc.size); clear hb)
        go_ret2
        exact exp_none HR.out acc
      · have hs0 : ¬ s.toList = [] := fun e => h0 ((empty_iff s).1 e)
        have hs1 : s.toList.isEmpty = false := by simpa using hs0
        have hr := expand_go hx hy h0
        have hplen := part_len 44 s.data.toList
        have hmlen := splitOn_len 44 s.data.toList
        have hsl : s.data.toList.length = s.size := rfl
        have hcl := isR_short' hx
        have hsvl := isR_short' hy
        obtain ⟨X, hX⟩ : ∃ X, X = expandOf s.data.toList cl.data.toList sv.data.toList := ⟨_, rfl⟩
        rw [← hX] at hr ⊢
        have hS := fun w hg => split_any w s 44 hg (by omega)
        obtain ⟨F, hF⟩ : ∃ F, F = splitOn 44 s.data.toList := ⟨_, rfl⟩
        rw [← hF] at hr hplen hmlen hS
        have HR := Lib.hid hr
        have HPL := Lib.hid hplen
        clear hr hplen hX hF h0
        go_enter Tryd.func17, Tryd.ntmps17
        go_wp2_with (first
          | (go_at_call 28; refine (is_any _ _ (HG.out.below acc) (by assumption)).mono ?_; rintro e w2 ⟨rfl, hb⟩; (first | rw [hx] | rw [hy]); replace acc := acc.trans (hb.mono acc.size); clear hb)
          | (go_at_call 29; refine (hS _ (HG.out.below (acc.alloc acc.size _))).mono ?_; rintro e w4 ⟨rfl, ho4, hb4⟩; have hx4 := ex_new _ _ hb4))
        have hE0 : w.heap.size ≤ w2.heap.size := acc.size
        have hF4 := At.owns ho4
        have hh : (w2.alloc (.cells #[.slice none 0 0, .string ⟨#[]⟩, .bool false] 54)).heap.size = w2.heap.size + 1 := by simp
        have hfb : 0 < F.length → ∀ b off, (some (⟨(w2.alloc (.cells #[.slice none 0 0, .string ⟨#[]⟩, .bool false] 54)).heap.size, 0, none⟩ : Addr)) = some ⟨b, off, none⟩ → b < w4.heap.size ∧ b ≠ w2.heap.size := by
          intro hn b off e
          simp only [Option.some.injEq, Addr.mk.injEq] at e
          obtain ⟨g, cap, e', hb', hlt'⟩ := World.ownsRow.form ho4 hn
          simp only [Value.slice.injEq, Option.some.injEq, Addr.mk.injEq] at e'
          omega
        have acc4 : Below w.heap.size w w4 := (acc.alloc acc.size _).trans (hb4.mono (by rw [hh]; omega))
        rw [hh] at hfb hF4
        have HF4 := Lib.hid hF4
        have HFB := Lib.hid hfb
        have HX4 := Lib.hid hx4
        have HACC := Lib.hid acc4
        have hg0 : 0 < w2.heap.size := by omega
        obtain ⟨g, hgg0⟩ : ∃ g, g = w2.heap.size := ⟨_, rfl⟩
        rw [← hgg0] at HF4 HFB HX4 hg0 hE0 ⊢
        clear ho4 hb4 hx4 hF4 hfb acc4 hh acc hgg0 hS
        go_loopg [28] F.length (fun gg s28 wr => ∃ (i : Nat) (ad : Option Addr) (c : Nat) (l : List Str) (p : ByteArray) (nl : Bool), i ≤ F.length ∧ F.length - i ≤ gg ∧ s28 = .int .i64 i ∧ l.length ≤ 8 ∧ p.size ≤ 37 ∧ Aside (Ex wr g w4.heap.size ad c l p nl) ∧ Aside (Keep g w4.heap.size w4 wr) ∧ Aside (X = exGo cl.data.toList sv.data.toList (F.drop i) l p.data.toList nl))
        case atStart => exact ⟨0, none, 0, [], ⟨#[]⟩, false, by omega, by omega, rfl, by simp, by show 0 ≤ 37; omega, HX4.out, Keep.refl _ _ _, HR.out⟩
        case round =>
          obtain ⟨i, ad, c, l, p, nl, hi, hgg, rfl, hl8, hp37, HX, HK, HGO⟩ := hrel
          have hK := HK.out
          have hx' := HX.out
          have accr : Below w.heap.size w wr := HACC.out.trans (hK.bel.mono hE0)
          have ACCR := Lib.hid accr
          clear hK accr
          by_cases hlt : i < F.length
          · have hltz : (i : Int) < (F.length : Int) := by omega
            have hA := HK.out.at HF4.out HFB.out (by have := HK.out.bel.size; exact this)
            obtain ⟨bk, off, hbk, hbl, hc⟩ := hA.cell (by omega)
            obtain ⟨f, hff⟩ : ∃ f : ByteArray, f = ⟨F[i]!.toArray⟩ := ⟨_, rfl⟩
            have hfd : f.data.toList = F[i]! := by rw [hff]
            have kf := hc i hlt
            rw [← hff] at kf
            have hmem : F[i]! ∈ F := by rw [getElem!_pos F i hlt]; exact List.getElem_mem _
            have sf : f.size < 80000 := by have e : f.data.toList.length = f.size := rfl; have := HPL.out _ hmem; rw [hfd] at e; omega
            have hstep : F.drop i = f.data.toList :: F.drop (i + 1) := by rw [hfd, getElem!_pos F i hlt]; exact List.drop_eq_getElem_cons hlt
            have hgo := HGO.out
            rw [hstep, exGo_cons] at hgo
            simp only [Option.some.injEq, Addr.mk.injEq, and_true] at hbk
            obtain ⟨rfl, rfl⟩ := hbk
            rw [Nat.zero_add] at kf
            have k0 := hx'.c0
            have k1 := hx'.c1
            have k2 := hx'.c2
            have z0 := hx'.fz 0
            have z1 := hx'.fz 1
            have z2 := hx'.fz 2
            clear hA hc hff hmem hstep HGO
            by_cases hf0 : f.data.toList = []
            · rw [if_pos hf0] at hgo
              have hf1 := (empty_iff f).2 hf0
              have HGO := Lib.hid hgo
              clear hgo hf0 hfd
              go_wp2
              go_roundg (F.length - (i + 1))
              case measure => omega
              case rel => exact ⟨i + 1, ad, c, l, p, true, by omega, by omega, by go_num, hl8, hp37, HX.out.setNull true, HK.out.setCell _ _, HGO.out⟩
            · rw [if_neg hf0] at hgo
              have hf1 : ¬ f.toList = [] := fun e => hf0 ((empty_iff f).1 e)
              have hf2 : f.toList.isEmpty = false := by simpa using hf1
              cases hsub : subOf f.data.toList p.data.toList with
              | none =>
                rw [hsub] at hgo
                simp only at hgo
                have HGO := Lib.hid hgo
                have hsb : (subOf f.data.toList p.data.toList).isSome = false := by rw [hsub]; rfl
                clear hgo hf0 hfd hsub
                go_wp2_with (go_at_call 30; refine (trealm_any _ (HG.out.below ACCR.out) f p sf (by omega)).mono ?_; rintro e w5 ⟨t, rfl, ht, hb5⟩; rw [hsb])
                go_ret2
                exact exp_none HGO.out (ACCR.out.trans (hb5.mono ACCR.out.size))
              | some r =>
                rw [hsub] at hgo
                simp only at hgo
                have hsb : (subOf f.data.toList p.data.toList).isSome = true := by rw [hsub]; rfl
                have hrR := sub_isR hsub
                have hr37 := isR_short' hrR
                have htr : ∀ t : ByteArray, (∀ r, subOf f.data.toList p.data.toList = some r → t.data.toList = r) → t.data.toList = r := fun t ht => ht r hsub
                have HTR := Lib.hid htr
                obtain ⟨U, hU⟩ : ∃ U, U = fillOf cl.data.toList r l p.data.toList nl := ⟨_, rfl⟩
                rw [← hU] at hgo
                have hUlen : U.length ≤ 14 := by
                  rw [hU]
                  unfold fillOf
                  split
                  · have := (addsOf_len l (betOf (if p.data.toList = [] then cl.data.toList else p.data.toList) r)).2
                    have := betOf_six (if p.data.toList = [] then cl.data.toList else p.data.toList) r
                    omega
                  · omega
                have HUU := Lib.hid hU
                have hadd := (addOf_len U r).2
                obtain ⟨V, hV⟩ : ∃ V, V = addOf U r := ⟨_, rfl⟩
                rw [← hV] at hgo hadd
                have HV := Lib.hid hV
                clear hf0 hfd hsub htr hU hV
                by_cases h8 : 8 < V.length
                · have h8z : (8 : Int) < (V.length : Int) := by omega
                  rw [if_pos h8] at hgo
                  have HGO := Lib.hid hgo
                  clear hgo h8
                  go_wp2_with (first
                    | (go_at_call 30; refine (trealm_any _ (HG.out.below ACCR.out) f p sf (by omega)).mono ?_; rintro e w5 ⟨t, rfl, ht, hb5⟩; rw [hsb]; replace ht := HTR.out t ht; have st : t.size < 90000 := (by have e : t.data.toList.length = t.size := rfl; rw [ht] at e; omega); have HT := Lib.hid ht; clear ht; have hx5 := HX.out.below hb5; have hk5 := HK.out.trans (Keep.of (hb5.mono HX.out.hi) HX.out.lo))
                    | (go_at_call 31; refine (fills_any _ _ (HG.out.belowG (HACC.out.trans (hk5.bel.mono hE0)) HG.out.lt) hg0 hx5 (by omega) (by omega) st (by omega)).mono ?_; rintro e w6 ⟨rfl, ad6, c6, hx6, hk6⟩; rw [HT.out, ← HUU.out] at hx6)
                    | (go_at_call 32; refine (adds_any _ 1 _ [t.data.toList] (hx6.below ((Below.refl _ _).alloc (Nat.le_refl _) _)) (At.owns (wpList_lit_text t.data.toList)) (fun _ => own_far (wpList_lit_text t.data.toList) (by omega) (Nat.lt_of_lt_of_le hx6.lo hx6.hi) hx6.block_lt) (by omega)).mono ?_; rintro e w7 ⟨rfl, ad7, c7, hx7, hk7⟩; rw [HT.out, show addsOf U [r] = addOf U r from rfl, ← HV.out] at hx7; have q0 := hx7.c0; have q1 := hx7.c1; have y1 := hx7.fz 1))
                  go_ret2
                  have hk67 := (hk5.trans hk6).trans ((Keep.of (((Below.refl _ w6).alloc hx6.hi _)) hx6.lo).trans hk7)
                  exact exp_none HGO.out (HACC.out.trans ((hk67.setCell _ _).bel.mono hE0))
                · have h8z : ¬ (8 : Int) < (V.length : Int) := by omega
                  rw [if_neg h8] at hgo
                  have HGO := Lib.hid hgo
                  clear hgo
                  go_wp2_with (first
                    | (go_at_call 30; refine (trealm_any _ (HG.out.below ACCR.out) f p sf (by omega)).mono ?_; rintro e w5 ⟨t, rfl, ht, hb5⟩; rw [hsb]; replace ht := HTR.out t ht; have st : t.size < 90000 := (by have e : t.data.toList.length = t.size := rfl; rw [ht] at e; omega); have HT := Lib.hid ht; clear ht; have hx5 := HX.out.below hb5; have hk5 := HK.out.trans (Keep.of (hb5.mono HX.out.hi) HX.out.lo))
                    | (go_at_call 31; refine (fills_any _ _ (HG.out.belowG (HACC.out.trans (hk5.bel.mono hE0)) HG.out.lt) hg0 hx5 (by omega) (by omega) st (by omega)).mono ?_; rintro e w6 ⟨rfl, ad6, c6, hx6, hk6⟩; rw [HT.out, ← HUU.out] at hx6)
                    | (go_at_call 32; refine (adds_any _ 1 _ [t.data.toList] (hx6.below ((Below.refl _ _).alloc (Nat.le_refl _) _)) (At.owns (wpList_lit_text t.data.toList)) (fun _ => own_far (wpList_lit_text t.data.toList) (by omega) (Nat.lt_of_lt_of_le hx6.lo hx6.hi) hx6.block_lt) (by omega)).mono ?_; rintro e w7 ⟨rfl, ad7, c7, hx7, hk7⟩; rw [HT.out, show addsOf U [r] = addOf U r from rfl, ← HV.out] at hx7; have q0 := hx7.c0; have q1 := hx7.c1; have y1 := hx7.fz 1))
                  go_roundg (F.length - (i + 1))
                  case measure => omega
                  case rel =>
                    have hk67 := (hk5.trans hk6).trans ((Keep.of (((Below.refl _ w6).alloc hx6.hi _)) hx6.lo).trans hk7)
                    exact ⟨i + 1, ad7, c7, V, t, false, by omega, by omega, by go_num, by omega, by have e : t.data.toList.length = t.size := rfl; rw [HT.out] at e; omega, hx7.setAhead t, hk67.setCell _ _, by rw [HT.out]; exact HGO.out⟩
          · have hiF : i = F.length := by omega
            subst hiF
            have hgo := HGO.out
            rw [List.drop_length, exGo_nil] at hgo
            obtain ⟨U, hU⟩ : ∃ U, U = fillOf cl.data.toList sv.data.toList l p.data.toList nl := ⟨_, rfl⟩
            rw [← hU] at hgo
            have HUU := Lib.hid hU
            clear hU HGO
            by_cases h8 : 8 < U.length
            · have h8z : (8 : Int) < (U.length : Int) := by omega
              rw [if_pos h8] at hgo
              have HGO := Lib.hid hgo
              clear hgo h8
              go_wp2_with (go_at_call 31; refine (fills_any _ _ (HG.out.below ACCR.out) hg0 HX.out (by omega) (by omega) (by omega) (by omega)).mono ?_; rintro e w6 ⟨rfl, ad6, c6, hx6, hk6⟩; rw [← HUU.out] at hx6; have q0 := hx6.c0)
              go_ret2
              exact exp_none HGO.out (ACCR.out.trans (hk6.bel.mono hE0))
            · have h8z : ¬ (8 : Int) < (U.length : Int) := by omega
              rw [if_neg h8] at hgo
              have HGO := Lib.hid hgo
              clear hgo
              go_wp2_with (go_at_call 31; refine (fills_any _ _ (HG.out.below ACCR.out) hg0 HX.out (by omega) (by omega) (by omega) (by omega)).mono ?_; rintro e w6 ⟨rfl, ad6, c6, hx6, hk6⟩; rw [← HUU.out] at hx6; have q0 := hx6.c0)
              go_ret2
              exact ⟨ad6, c6, by rw [HGO.out]; rfl, by rw [HGO.out]; exact own_mono hx6.own (HACC.out.size), ACCR.out.trans (hk6.bel.mono hE0)⟩
end Go.Proofs.YtjbdegcmolimoaaDoor
