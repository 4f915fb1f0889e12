/-
  route.Is.
-/
import Derived.Test.YtcleonpckgfdhaaGreatDoorRtIsPath
set_option linter.unusedVariables false
set_option linter.unusedSimpArgs false
set_option maxRecDepth 100000
namespace Go.Proofs.YtcleonpckgfdhaaGreatDoor
open Go Go.RowKit Go.Lib Go.Shelf

theorem linkBad_all (R : List Str) (L : List Link) : L.any (linkBad R) = false ↔ ∀ l ∈ L, linkOk R l := by
  rw [List.any_eq_false]
  unfold linkBad linkOk
  constructor
  · intro h r hr
    have := h r hr
    simpa [not_or] using this
  · intro h r hr
    have := h r hr
    simp [this.1, this.2.1, this.2.2]
theorem notRealm_all (R : List Str) : R.any (fun x => !isR x) = false ↔ ∀ r ∈ R, isR r = true := by
  rw [List.any_eq_false]
  simp

theorem topoOk_mk {T : Topo} {n m p : Nat} (hn : T.realms.length = n) (hm : T.links.length = m) (hp : T.paths.length = p) : topoOk T ↔ (1 ≤ n ∧ n ≤ 6 ∧ T.realms.Nodup ∧ m ≤ 20 ∧ T.links.Nodup ∧ p ≤ 8) ∧ (∀ q ∈ T.paths, wayOk T.realms q) ∧ (T.paths.map (·.1)).Nodup ∧ (∀ l ∈ T.links, linkOk T.realms l) ∧ ∀ r ∈ T.realms, isR r = true := by
  subst hn
  subst hm
  subst hp
  unfold topoOk
  constructor
  · rintro ⟨⟨a, b, c, d⟩, ⟨e, f, g⟩, h, i, j⟩
    exact ⟨⟨a, b, c, e, f, h⟩, j, i, g, d⟩
  · rintro ⟨⟨a, b, c, e, f, h⟩, j, i, g, d⟩
    exact ⟨⟨a, b, c, d⟩, ⟨e, f, g⟩, h, i, j⟩

set_option maxHeartbeats 2000000 in
theorem is7_any (w : World) (v : Tv) (T : Topo) (hT : Tt w v T) (hg : Glob w) (hbr : ∀ r ∈ T.realms, r.length < 90000) (hnl : v.nl ≤ 4611686018427387904) (hnr : v.nr ≤ 4611686018427387904) (hnp : v.np ≤ 4611686018427387904) :
    Calls Tryz.prog 31 #[.agg #[.slice v.ar v.nr v.cr, .slice v.al v.nl v.cl, .slice v.ap v.np v.cp]] w fun e w' => e = .returned (.bool (decide (topoOk T))) ∧ Below w.heap.size w w' := by
  obtain ⟨ar, nr, cr, al, nl, cl, ap, np, cp⟩ := v
  dsimp only at hnl hnr hnp ⊢
  obtain ⟨R, hR⟩ : ∃ R, R = decide (topoOk T) := ⟨_, rfl⟩
  rw [← hR]
  have hR2 := fun (b : Bool) (h : (topoOk T ↔ b = true)) => (show R = b by rw [hR, Bool.eq_iff_iff, decide_eq_true_iff]; exact h)
  have hmk := topoOk_mk (n := nr) (m := nl) (p := np) hT.r.len hT.l.len hT.p.len
  obtain ⟨w1, hw1⟩ : ∃ w1, w1 = w.alloc (.cells #[.slice ar nr cr, .slice al nl cl, .slice ap np cp] 26) := ⟨_, rfl⟩
  have acc : Below w.heap.size w w1 := by rw [hw1]; exact (Below.refl _ _).alloc (Nat.le_refl _) _
  have hz : w1.heap.size = w.heap.size + 1 := by rw [hw1]; simp
  have k0 : ∀ (i : Nat) x, (#[Value.slice ar nr cr, .slice al nl cl, .slice ap np cp] : Array Value)[i]? = some x → w1.cell? ⟨w.heap.size, i, none⟩ = some x := fun i x h => by rw [hw1]; exact cell_new rfl _ _ h
  have keep : ∀ w2, Below w1.heap.size w1 w2 → w2.cell? ⟨w.heap.size, 0, none⟩ = some (.slice ar nr cr) ∧ w2.cell? ⟨w.heap.size, 1, none⟩ = some (.slice al nl cl) ∧ w2.cell? ⟨w.heap.size, 2, none⟩ = some (.slice ap np cp) := fun w2 h =>
    ⟨(h.cell (p := ⟨w.heap.size, 0, none⟩) (by show w.heap.size < _; omega)).trans (k0 0 _ rfl), (h.cell (p := ⟨w.heap.size, 1, none⟩) (by show w.heap.size < _; omega)).trans (k0 1 _ rfl), (h.cell (p := ⟨w.heap.size, 2, none⟩) (by show w.heap.size < _; omega)).trans (k0 2 _ rfl)⟩
  have HT := Lib.hid (hT.below acc)
  have HG := Lib.hid (hg.below acc)
  have KEEP := Lib.hid keep
  have ACC := Lib.hid acc
  have HZ := Lib.hid hz
  have HW1 := Lib.hid hw1
  have HR := Lib.hid hR2
  have HMK := Lib.hid hmk
  have HBR := Lib.hid hbr
  have hTS : nr ≤ 100000 → Calls Tryz.prog 46 #[.slice ar nr cr] w1 fun e w' => e = .returned (.bool (!decide T.realms.Nodup)) ∧ Below w1.heap.size w1 w' := fun h => isTwiceS_any w1 _ _ _ _ HT.out.r HT.out.cr h
  have hTL : ∀ W, Below w1.heap.size w1 W → Calls Tryz.prog 47 #[.slice al nl cl] W fun e w' => e = .returned (.bool (!decide T.links.Nodup)) ∧ Below W.heap.size W w' := fun W h => isTwiceL_any W _ _ _ _ (HT.out.l.below h) HT.out.cl hnl
  rw [hw1] at hTS
  clear hT hR hR2 hmk hbr hw1 acc hz k0 keep hg
  by_cases h1 : nr = 0
  · have d1 : ((nr : Int) == 0) = true := by simp [h1]
    have hr : R = false := HR.out false ⟨fun h => absurd ((HMK.out).1 h) (by rintro ⟨⟨h, _⟩, _⟩; omega), fun h => by cases h⟩
    subst hr
    go_enter Tryz.func31, Tryz.ntmps31
    go_wp2
    go_ret
    exact ⟨rfl, (Below.refl _ _).alloc (Nat.le_refl _) _⟩
  have d1 : ((nr : Int) == 0) = false := by simp [h1]
  by_cases h2 : 6 < nr
  · have d2 : (6 : Int) < (nr : Int) := by omega
    have hr : R = false := HR.out false ⟨fun h => absurd ((HMK.out).1 h) (by rintro ⟨⟨_, h, _⟩, _⟩; omega), fun h => by cases h⟩
    subst hr
    go_enter Tryz.func31, Tryz.ntmps31
    go_wp2
    go_ret
    exact ⟨rfl, (Below.refl _ _).alloc (Nat.le_refl _) _⟩
  have d2 : ¬ (6 : Int) < (nr : Int) := by omega
  have hTS2 := hTS (by omega)
  clear hTS
  by_cases h3 : T.realms.Nodup
  case neg =>
    rw [decide_eq_false h3] at hTS2
    have hr : R = false := HR.out false ⟨fun h => absurd ((HMK.out).1 h) (by rintro ⟨⟨_, _, h, _⟩, _⟩; exact h3 h), fun h => by cases h⟩
    subst hr
    go_enter Tryz.func31, Tryz.ntmps31
    go_wp2_with (first | (go_at_call 46; refine hTS2.mono ?_; rintro e w3 ⟨rfl, hb3⟩; rw [← HW1.out] at hb3; obtain ⟨a0, a1, a2⟩ := KEEP.out w3 hb3))
    go_ret
    exact ⟨rfl, ACC.out.trans (hb3.mono ACC.out.size)⟩
  have H3 := Lib.hid h3
  rw [decide_eq_true h3] at hTS2
  clear h3
  by_cases h4 : 20 < nl
  · have d4 : (20 : Int) < (nl : Int) := by omega
    have hr : R = false := HR.out false ⟨fun h => absurd ((HMK.out).1 h) (by rintro ⟨⟨_, _, _, h, _⟩, _⟩; omega), fun h => by cases h⟩
    subst hr
    go_enter Tryz.func31, Tryz.ntmps31
    go_wp2_with (first | (go_at_call 46; refine hTS2.mono ?_; rintro e w3 ⟨rfl, hb3⟩; rw [← HW1.out] at hb3; obtain ⟨a0, a1, a2⟩ := KEEP.out w3 hb3))
    go_ret
    exact ⟨rfl, ACC.out.trans (hb3.mono ACC.out.size)⟩
  have d4 : ¬ (20 : Int) < (nl : Int) := by omega
  by_cases h5 : T.links.Nodup
  case neg =>
    have d5 := decide_eq_false h5
    have hr : R = false := HR.out false ⟨fun h => absurd ((HMK.out).1 h) (by rintro ⟨⟨_, _, _, _, h, _⟩, _⟩; exact h5 h), fun h => by cases h⟩
    subst hr
    go_enter Tryz.func31, Tryz.ntmps31
    go_wp2_with (first | (go_at_call 46; refine hTS2.mono ?_; rintro e w3 ⟨rfl, hb3⟩; rw [← HW1.out] at hb3; obtain ⟨a0, a1, a2⟩ := KEEP.out w3 hb3) | (go_at_call 47; refine (hTL _ hb3).mono ?_; rintro e w4 ⟨rfl, hb4⟩; rw [d5]; have acc4 := hb3.trans (hb4.mono hb3.size); clear a0 a1 a2; obtain ⟨a0, a1, a2⟩ := KEEP.out w4 acc4))
    go_ret
    exact ⟨rfl, ACC.out.trans (acc4.mono ACC.out.size)⟩
  have H5 := Lib.hid h5
  have d5 := decide_eq_true h5
  clear h5
  by_cases h6 : 8 < np
  · have d6 : (8 : Int) < (np : Int) := by omega
    have hr : R = false := HR.out false ⟨fun h => absurd ((HMK.out).1 h) (by rintro ⟨⟨_, _, _, _, _, h⟩, _⟩; omega), fun h => by cases h⟩
    subst hr
    go_enter Tryz.func31, Tryz.ntmps31
    go_wp2_with (first | (go_at_call 46; refine hTS2.mono ?_; rintro e w3 ⟨rfl, hb3⟩; rw [← HW1.out] at hb3; obtain ⟨a0, a1, a2⟩ := KEEP.out w3 hb3) | (go_at_call 47; refine (hTL _ hb3).mono ?_; rintro e w4 ⟨rfl, hb4⟩; rw [d5]; have acc4 := hb3.trans (hb4.mono hb3.size); clear a0 a1 a2; obtain ⟨a0, a1, a2⟩ := KEEP.out w4 acc4))
    go_ret
    exact ⟨rfl, ACC.out.trans (acc4.mono ACC.out.size)⟩
  have d6 : ¬ (8 : Int) < (np : Int) := by omega
  have hfirst : 1 ≤ nr ∧ nr ≤ 6 ∧ T.realms.Nodup ∧ nl ≤ 20 ∧ T.links.Nodup ∧ np ≤ 8 := ⟨by omega, by omega, H3.out, by omega, H5.out, by omega⟩
  have HF := Lib.hid hfirst
  clear hfirst h1 h2 h4 h6
  go_enter Tryz.func31, Tryz.ntmps31
  go_wp2_with (first | (go_at_call 46; refine hTS2.mono ?_; rintro e w3 ⟨rfl, hb3⟩; rw [← HW1.out] at hb3; obtain ⟨a0, a1, a2⟩ := KEEP.out w3 hb3) | (go_at_call 47; refine (hTL _ hb3).mono ?_; rintro e w4 ⟨rfl, hb4⟩; rw [d5]; have acc4 := hb3.trans (hb4.mono hb3.size); clear a0 a1 a2; obtain ⟨a0, a1, a2⟩ := KEEP.out w4 acc4))
  have AC4 := Lib.hid acc4
  clear hb3 hb4 acc4 a0 a1 a2 hTS2 hTL d5 d1 d2 d4 d6
  go_loopg [42, 3] np (fun gg s42 s3 wr => ∃ (k : Nat) (ad : Option Addr) (c : Nat), k ≤ np ∧ np - k ≤ gg ∧ s42 = .int .i64 k ∧ s3 = .slice ad k c ∧ Aside (∀ j, j < k → wayOk T.realms T.paths[j]!) ∧ Aside (wr.ownsRow w4.heap.size 39 2 (.slice ad k c) k (lnks ((T.paths.take k).map (·.1)))) ∧ Aside (Below w4.heap.size w4 wr))
  case atStart => exact ⟨0, none, 0, by omega, by omega, rfl, rfl, fun j hj => absurd hj (Nat.not_lt_zero _), World.ownsRow_nil _ _ _ _, Below.refl _ _⟩
  case round =>
    obtain ⟨k, ad, c, hk, hgg, rfl, rfl, HK, HO, HB⟩ := hrel
    have accr := AC4.out.trans (HB.out.mono AC4.out.size)
    obtain ⟨a0, a1, a2⟩ := KEEP.out wr accr
    have hlenw : w.heap.size < wr.heap.size := by have h1 := accr.size; have h2 := HZ.out; omega
    have ACR := Lib.hid accr
    clear accr
    by_cases hlt : k < np
    · have hltz : (k : Int) < (np : Int) := by omega
      obtain ⟨b, off, hb, hbl, hc⟩ := (HT.out.p.below ACR.out).cell (show 0 < np by omega)
      obtain ⟨av, nv, cv, h1, h2, h3, hV, hnv⟩ := hc k hlt
      obtain ⟨x, hx⟩ : ∃ x : ByteArray, x = ⟨T.paths[k]!.1.1.toArray⟩ := ⟨_, rfl⟩
      obtain ⟨y, hy⟩ : ∃ y : ByteArray, y = ⟨T.paths[k]!.1.2.toArray⟩ := ⟨_, rfl⟩
      have hxy : ((x.data.toList, y.data.toList), T.paths[k]!.2) = T.paths[k]! := by rw [hx, hy]
      rw [← hx] at h1
      rw [← hy] at h2
      obtain ⟨w5, hw5⟩ : ∃ w5, w5 = wr.alloc (.cells #[.string x, .string y, .slice av nv cv] 41) := ⟨_, rfl⟩
      have acc5 : Below wr.heap.size wr w5 := by rw [hw5]; exact (Below.refl _ _).alloc (Nat.le_refl _) _
      have hz5 : w5.heap.size = wr.heap.size + 1 := by rw [hw5]; simp
      have p0 : ∀ (i : Nat) u, (#[Value.string x, .string y, .slice av nv cv] : Array Value)[i]? = some u → w5.cell? ⟨wr.heap.size, i, none⟩ = some u := fun i u h => by rw [hw5]; exact cell_new rfl _ _ h
      have keep5 : ∀ W, Below w5.heap.size w5 W → W.cell? ⟨wr.heap.size, 0, none⟩ = some (.string x) ∧ W.cell? ⟨wr.heap.size, 1, none⟩ = some (.string y) ∧ W.cell? ⟨wr.heap.size, 2, none⟩ = some (.slice av nv cv) := fun W h =>
        ⟨(h.cell (p := ⟨wr.heap.size, 0, none⟩) (by show wr.heap.size < _; omega)).trans (p0 0 _ rfl), (h.cell (p := ⟨wr.heap.size, 1, none⟩) (by show wr.heap.size < _; omega)).trans (p0 1 _ rfl), (h.cell (p := ⟨wr.heap.size, 2, none⟩) (by show wr.heap.size < _; omega)).trans (p0 2 _ rfl)⟩
      have hP := isPath_any w5 ⟨ar, nr, cr, al, nl, cl, ap, np, cp⟩ T x y av nv cv T.paths[k]!.2 ((HT.out.below ACR.out).below acc5) (show nr ≤ 100000 by have := HF.out.2.1; omega) (hV.below acc5) hnv
      rw [hxy] at hP
      have KEEP5 := Lib.hid keep5
      have AC5 := Lib.hid acc5
      have HW5 := Lib.hid hw5
      have HZ5 := Lib.hid hz5
      have HXY := Lib.hid hxy
      rw [hw5] at hP
      have hmem : T.paths[k]! ∈ T.paths := by rw [getElem!_pos T.paths k (by rw [HT.out.p.len]; exact hlt)]; exact List.getElem_mem _
      have HMEM := Lib.hid hmem
      have hnext : ((T.paths.take (k + 1)).map (·.1)) = ((T.paths.take k).map (·.1)) ++ [(x.data.toList, y.data.toList)] := by
        rw [List.take_succ_eq_append_getElem (by rw [HT.out.p.len]; exact hlt), List.map_append, ← getElem!_pos T.paths k (by rw [HT.out.p.len]; exact hlt), ← hxy]
        rfl
      have HNX := Lib.hid hnext
      subst hb
      clear hc hV hnv hx hy hxy hw5 acc5 hz5 p0 keep5 hmem hnext
      by_cases hok : wayOk T.realms T.paths[k]!
      · rw [decide_eq_true hok] at hP
        have HOK := Lib.hid hok
        clear hok
        go_wp2_with (first
          | (go_at_call 48; refine hP.mono ?_; rintro e w6 ⟨rfl, hb6⟩; rw [← HW5.out] at hb6; obtain ⟨y0, y1, y2⟩ := KEEP5.out w6 hb6)
          | (at_builtin; refine wpList_append_link _ rfl (.tmp 50) (.tmp 56) rfl w4.heap.size ad k c ((T.paths.take k).map (·.1)) rfl ((ownL_below HO.out (AC5.out.trans (hb6.mono AC5.out.size))).alloc _) w6.heap.size x.data.toList y.data.toList rfl (heap_alloc_new _ _) (by have := HF.out.2.2.2.2.2; omega) (by have := HB.out.size; have := AC5.out.size; have := hb6.size; simp; omega) ?_; intro g7 cap7 w7 hown7 hb7))
        have hbb : Below w4.heap.size w4 w7 := ((HB.out.trans ((AC5.out.trans (hb6.mono AC5.out.size)).mono HB.out.size))).trans (((Below.refl _ _).alloc (by have := HB.out.size; have := AC5.out.size; have := hb6.size; omega) _).trans hb7)
        have HO7 := Lib.hid hown7
        have HB7 := Lib.hid hbb
        clear hown7 hb7 hbb hb6
        go_roundg (np - (k + 1))
        case measure => omega
        case rel =>
          refine ⟨k + 1, some ⟨g7, 0, none⟩, cap7, by omega, by omega, by go_num, rfl, fun j hj => ?_, by rw [HNX.out]; exact HO7.out, HB7.out⟩
          by_cases e : j = k
          · subst e; exact HOK.out
          · exact HK.out j (by omega)
      · rw [decide_eq_false hok] at hP
        have hr : R = false := HR.out false ⟨fun h => absurd ((HMK.out).1 h).2.1 (fun h => hok (h _ HMEM.out)), fun h => by cases h⟩
        subst hr
        clear hok
        go_wp2_with (go_at_call 48; refine hP.mono ?_; rintro e w6 ⟨rfl, hb6⟩; rw [← HW5.out] at hb6)
        go_ret
        exact ⟨rfl, ((ACC.out.trans (ACR.out.mono ACC.out.size)).trans ((AC5.out.trans (hb6.mono AC5.out.size)).mono (by have := ACC.out.size; have := ACR.out.size; omega)))⟩
    · have hkk : np = k := by omega
      subst hkk
      have htk : T.paths.take np = T.paths := List.take_of_length_le (Nat.le_of_eq HT.out.p.len)
      rw [htk] at HO
      have hpaths : ∀ q ∈ T.paths, wayOk T.realms q := by
        intro q hq
        obtain ⟨j, hj, rfl⟩ := List.getElem_of_mem hq
        have := HK.out j (Nat.lt_of_lt_of_eq hj HT.out.p.len)
        rwa [getElem!_pos T.paths j hj] at this
      have HPA := Lib.hid hpaths
      have hE := isTwiceL_any wr ad np c _ (LinksAt.owns HO.out) (ownL_cap HO.out) hnp
      have hCL : ∀ W, Below wr.heap.size wr W → Calls Tryz.prog 50 #[.slice al nl cl, .func (.func 49) #[] #[.pointer (some ⟨w.heap.size, 0, none⟩)]] W fun e w' => e = .returned (.bool (T.links.any (linkBad T.realms))) ∧ Below W.heap.size W w' := fun W h =>
        linkBadAny_any W w.heap.size al nl cl T.links _ ((HT.out.l.below ACR.out).below h) hnl (fun W2 x h2 hx => by
          obtain ⟨z0, _, _⟩ := KEEP.out W2 ((ACR.out.trans (h.mono ACR.out.size)).trans (h2.mono (by have := ACR.out.size; have := h.size; omega)))
          exact linkBad_any W2 w.heap.size ar nr cr T.realms x (((HT.out.r.below ACR.out).below h).below h2) (show nr ≤ 100000 by have := HF.out.2.1; omega) (by have := h.size; have := h2.size; omega) z0)
      have hCR : ∀ W, Below wr.heap.size wr W → Calls Tryz.prog 29 #[.slice ar nr cr, .func (.func 51) #[] #[]] W fun e w' => e = .returned (.bool (T.realms.any fun x => !isR x)) ∧ Below W.heap.size W w' := fun W h =>
        notRealmAny_any W ar nr cr T.realms _ ((HT.out.r.below ACR.out).below h) hnr (fun W2 x h2 hx => notRealm_any W2 x (((HG.out.below ACR.out).below h).below h2) (HBR.out x hx))
      have HCL := Lib.hid hCL
      have HCR := Lib.hid hCR
      clear hpaths htk hCL hCR
      by_cases q1 : (T.paths.map (·.1)).Nodup
      · rw [decide_eq_true q1] at hE
        have Q1 := Lib.hid q1
        clear q1
        by_cases q2 : T.links.any (linkBad T.realms) = false
        · have Q2 := Lib.hid q2
          clear q2
          have hr : R = !(T.realms.any fun x => !isR x) := HR.out _ ⟨fun h => by rw [(notRealm_all _).2 ((HMK.out).1 h).2.2.2.2]; rfl, fun h => (HMK.out).2 ⟨HF.out, HPA.out, Q1.out, (linkBad_all _ _).1 Q2.out, (notRealm_all _).1 (by simpa using h)⟩⟩
          obtain ⟨b3, hb3⟩ : ∃ b, b = T.realms.any fun x => !isR x := ⟨_, rfl⟩
          rw [← hb3] at hr
          have Q3 := Lib.hid hb3
          subst hr
          clear hb3
          go_wp2_with (first
            | (go_at_call 47; refine hE.mono ?_; rintro e w6 ⟨rfl, hb6⟩; have c1 := (hb6.cell (p := ⟨w.heap.size, 1, none⟩) hlenw).trans a1; have c0 := (hb6.cell (p := ⟨w.heap.size, 0, none⟩) hlenw).trans a0)
            | (go_at_call 50; refine (HCL.out w6 hb6).mono ?_; rintro e w7 ⟨rfl, hb7⟩; rw [Q2.out]; have e0 := (hb7.cell (p := ⟨w.heap.size, 0, none⟩) (Nat.lt_of_lt_of_le hlenw hb6.size)).trans c0)
            | (go_at_call 29; refine (HCR.out w7 (hb6.trans (hb7.mono hb6.size))).mono ?_; rintro e w8 ⟨rfl, hb8⟩; rw [← Q3.out]))
          go_ret
          exact ⟨rfl, ((ACC.out.trans (ACR.out.mono ACC.out.size)).trans ((hb6.trans ((hb7.trans (hb8.mono hb7.size)).mono hb6.size)).mono (by have := ACC.out.size; have := ACR.out.size; omega)))⟩
        · have q2 : T.links.any (linkBad T.realms) = true := by simpa using q2
          have hr : R = false := HR.out false ⟨fun h => (by have := (linkBad_all _ _).2 ((HMK.out).1 h).2.2.2.1; rw [q2] at this; cases this), fun h => by cases h⟩
          subst hr
          have Q2 := Lib.hid q2
          clear q2
          go_wp2_with (first
            | (go_at_call 47; refine hE.mono ?_; rintro e w6 ⟨rfl, hb6⟩; have c1 := (hb6.cell (p := ⟨w.heap.size, 1, none⟩) hlenw).trans a1)
            | (go_at_call 50; refine (HCL.out w6 hb6).mono ?_; rintro e w7 ⟨rfl, hb7⟩; rw [Q2.out]))
          go_ret
          exact ⟨rfl, ((ACC.out.trans (ACR.out.mono ACC.out.size)).trans ((hb6.trans (hb7.mono hb6.size)).mono (by have := ACC.out.size; have := ACR.out.size; omega)))⟩
      · rw [decide_eq_false q1] at hE
        have hr : R = false := HR.out false ⟨fun h => absurd ((HMK.out).1 h).2.2.1 q1, fun h => by cases h⟩
        subst hr
        clear q1
        go_wp2_with (go_at_call 47; refine hE.mono ?_; rintro e w6 ⟨rfl, hb6⟩)
        go_ret
        exact ⟨rfl, ((ACC.out.trans (ACR.out.mono ACC.out.size)).trans (hb6.mono (by have := ACC.out.size; have := ACR.out.size; omega)))⟩
end Go.Proofs.YtcleonpckgfdhaaGreatDoor
