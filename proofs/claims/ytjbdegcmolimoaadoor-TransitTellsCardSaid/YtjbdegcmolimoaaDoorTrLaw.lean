/-
  The laws of what was passed, in plain Lean.
-/
import Derived.Test.YtjbdegcmolimoaaDoorTrText
set_option linter.unusedVariables false
set_option linter.unusedSimpArgs false
namespace Go.Proofs.YtjbdegcmolimoaaDoor

/-- Realms, each once. -/
def onceOf (l : List Str) : List Str × Bool := if (l.any fun r => !isR r) = true then ([], false) else (addsOf [] l, decide ((addsOf [] l).length ≤ 8))
theorem once_ok {l : List Str} (h : (onceOf l).2 = true) : (∀ r ∈ l, isR r = true) ∧ (onceOf l).1 = addsOf [] l ∧ (∀ r ∈ (onceOf l).1, isR r = true) ∧ (onceOf l).1.Nodup ∧ (onceOf l).1.length ≤ 8 := by
  unfold onceOf at h ⊢
  split at h
  · cases h
  · rename_i h0
    rw [if_neg h0]
    have h1 : ∀ r ∈ l, isR r = true := by simpa using h0
    simp only [decide_eq_true_eq] at h
    refine ⟨h1, rfl, fun r hr => ?_, addsOf_nodup (by simp), h⟩
    rw [addsOf_mem] at hr
    rcases hr with hr | hr
    · simp at hr
    · exact h1 r hr

theorem bet_isR {a b : Str} : ∀ r ∈ betOf a b, isR r = true := by
  intro r hr
  by_cases h : kindOf a = 0 ∨ kindOf b = 0
  · unfold betOf at hr
    rw [if_pos h] at hr
    simp at hr
  · have ha : kindOf a ≠ 0 := fun e => h (.inl e)
    have hb : kindOf b ≠ 0 := fun e => h (.inr e)
    rw [betOf_eq ha hb, List.mem_append, List.mem_append] at hr
    have hP := pair_of ha hb
    have good : ∀ {L : List Str} {K j : Nat}, Good L K → 1 ≤ j → isR (realmOf (L.take j) K) = true := fun hG hj => by
      apply kind_isR
      rw [kind_realm (hG.take hj)]
      exact hG.kind_ne
    rcases hr with hr | hr | hr
    · obtain ⟨j, h1, h2, rfl⟩ := mem_ups hr
      exact good hP.ga (by omega)
    · unfold mid at hr
      split at hr
      · rename_i h1
        simp only [List.mem_singleton] at hr
        subst hr
        exact good hP.ga h1.1
      · simp at hr
    · obtain ⟨j, h1, h2, rfl⟩ := mem_downs hr
      exact good hP.gb (by omega)

theorem expand_go {s a b : Str} (ha : isR a = true) (hb : isR b = true) (hs : s ≠ []) : expandOf s a b = exGo a b (splitOn 44 s) [] [] false := by
  unfold expandOf
  rw [if_neg (by rw [ha, hb]; simp), if_neg hs]
theorem realm_comma {r : Str} (h : isR r = true) : 44 ∉ r := realm_no h 44 (by decide) (by decide) (by decide)

theorem null0 {a b : Str} (ha : isR a = true) (hb : isR b = true) (h8 : (addsOf [] (betOf a b)).length ≤ 8) : expandOf [44] a b = (addsOf [] (betOf a b), 0) := by
  rw [expand_go ha hb (by simp), show splitOn 44 [44] = [[], []] from rfl, exGo_cons, if_pos rfl, exGo_cons, if_pos rfl, exGo_nil]
  have e : fillOf a b [] [] true = addsOf [] (betOf a b) := rfl
  rw [e, if_neg (by omega)]
theorem null1 {a b r : Str} (ha : isR a = true) (hb : isR b = true) (hr : isR r = true) (h8 : (addsOf [] (betOf a r ++ [r])).length ≤ 8) : expandOf (44 :: r) a b = (addsOf [] (betOf a r ++ [r]), 0) := by
  have e1 : splitOn 44 (44 :: r) = [[], r] := by
    have := splitOn_app (c := 44) (x := []) (by simp) r
    rw [List.nil_append, splitOn_none (realm_comma hr)] at this
    exact this
  rw [expand_go ha hb (by simp), e1, exGo_cons, if_pos rfl, exGo_cons, if_neg (realm_nil hr), sub_first hr]
  have e : addOf (fillOf a r [] [] true) r = addsOf [] (betOf a r ++ [r]) := by
    rw [addsOf_append]
    rfl
  simp only
  rw [e, if_neg (by omega), exGo_nil]
  have e2 : fillOf a b (addsOf [] (betOf a r ++ [r])) r false = addsOf [] (betOf a r ++ [r]) := rfl
  rw [e2, if_neg (by omega)]
theorem null2 {a b r : Str} (ha : isR a = true) (hb : isR b = true) (hr : isR r = true) (h8 : (addsOf [] (r :: betOf r b)).length ≤ 8) : expandOf (r ++ [44]) a b = (addsOf [] (r :: betOf r b), 0) := by
  have e1 : splitOn 44 (r ++ [44]) = [r, []] := by
    rw [splitOn_app (realm_comma hr) []]
    rfl
  rw [expand_go ha hb (by simp), e1, exGo_first a b _ hr, exGo_cons, if_pos rfl, exGo_nil]
  have e : fillOf a b [r] r true = addsOf [] (r :: betOf r b) := by
    unfold fillOf
    rw [if_pos rfl, if_neg (realm_nil hr)]
    rfl
  rw [e, if_neg (by omega)]

theorem not_isR_byte {r : Str} {c : UInt8} (h : c ∈ r) (h1 : c.toNat < 65 ∨ 90 < c.toNat) (h2 : c ≠ 46) (h3 : c ≠ 47) : isR r = false := by
  cases e : isR r
  · rfl
  · exact absurd h (realm_no e c h1 h2 h3)

/-- Two fields, of which the second stands for r behind the first. -/
theorem two_fields {a b p f r : Str} (ha : isR a = true) (hb : isR b = true) (hp : isR p = true) (hf : 44 ∉ f) (hf0 : f ≠ []) (hs : subOf f p = some r) (hne : p ≠ r) : expandOf (p ++ 44 :: f) a b = ([p, r], 0) := by
  rw [expand_go ha hb (by simp), splitOn_app (realm_comma hp), splitOn_none hf, exGo_first a b _ hp, exGo_cons, if_neg hf0, hs]
  have e : addOf (fillOf a r [p] p false) r = [p, r] := by
    show addOf [p] r = _
    rw [addOf_new (by simp; exact fun e => hne e.symm)]
    rfl
  simp only
  rw [e, if_neg (by simp), exGo_nil]
  rfl
theorem two_fields_none {a b p f : Str} (ha : isR a = true) (hb : isR b = true) (hp : isR p = true) (hf : 44 ∉ f) (hf0 : f ≠ []) (hs : subOf f p = none) : expandOf (p ++ 44 :: f) a b = ([], 2) := by
  rw [expand_go ha hb (by simp), splitOn_app (realm_comma hp), splitOn_none hf, exGo_first a b _ hp, exGo_cons, if_neg hf0, hs]

theorem isA : isR [65] = true := by decide +kernel
theorem isB : isR [66] = true := by decide +kernel
theorem isEdu : isR [69, 68, 85] = true := by decide +kernel

theorem dot_kind {p q : Str} (hp : kindOf p = 1) (hq : kindOf q = 1) (h : isR (q ++ 46 :: p) = true) : underOf (q ++ 46 :: p) p = true ∧ kindOf (q ++ 46 :: p) = 1 := by
  have hk : kindOf (q ++ 46 :: p) = 1 := by
    rcases isR_cases h with h1 | h1
    · exact h1
    · exfalso
      have h2 := realm_head2 h1
      obtain ⟨b, h3, h4⟩ := realm_head1 hq
      rw [List.head?_append, h3] at h2
      simp only [Option.some_or, Option.some.injEq] at h2
      subst h2
      revert h4
      decide
  have parts1 : ∀ {r : Str}, kindOf r = 1 → (labelsOf r).1 = (splitOn 46 r).reverse := fun {r} hr => by
    obtain ⟨_, _, e⟩ := good_of_kind (r := r) (by omega)
    have hh := head1_not hr 47 (by decide)
    rw [e]
    unfold parts
    split
    · rename_i t
      exact absurd rfl hh
    · rfl
  refine ⟨?_, hk⟩
  have hsn := splitOn_ne 46 q
  have e1 : (labelsOf (q ++ 46 :: p)).1 = (labelsOf p).1 ++ (splitOn 46 q).reverse := by
    rw [parts1 hk, parts1 hp, splitOn_app2, List.reverse_append]
  have hl : 1 ≤ (splitOn 46 q).length := List.length_pos_iff.2 hsn
  simp only [underOf, Bool.and_eq_true, decide_eq_true_eq]
  refine ⟨by omega, by omega, ?_, ?_⟩
  · rw [e1, List.length_append, List.length_reverse]
    omega
  · rw [e1, List.take_left]

theorem dots {p q : Str} (hp : kindOf p = 1) (hq : kindOf q = 1) :
    (isR (q ++ 46 :: p) = false → expandOf (p ++ 44 :: (q ++ [46])) [65] [66] = ([], 2)) ∧
    (isR (q ++ 46 :: p) = true → expandOf (p ++ 44 :: (q ++ [46])) [65] [66] = ([p, q ++ 46 :: p], 0) ∧ compressOf [p, q ++ 46 :: p] = (p ++ 44 :: (q ++ [46]), 0)) := by
  have hpr := kind_isR (r := p) (by omega)
  have hqr := kind_isR (r := q) (by omega)
  have hf : (44 : UInt8) ∉ q ++ [46] := by
    rw [List.mem_append]
    rintro (h | h)
    · exact realm_comma hqr h
    · simp at h
  have hraw : subRaw (q ++ [46]) p = some (q ++ 46 :: p) := by
    unfold subRaw
    rw [if_pos (by simp), if_neg (realm_nil hpr)]
    simp
  constructor
  · intro h
    refine two_fields_none isA isB hpr hf (by simp) ?_
    unfold subOf
    rw [hraw]
    simp only
    rw [h]
    rfl
  · intro h
    obtain ⟨hu, hk⟩ := dot_kind hp hq h
    have hne : p ≠ q ++ 46 :: p := fun e => by
      have := congrArg List.length e
      simp at this
      omega
    refine ⟨two_fields isA isB hpr hf (by simp) (sub_of_raw hraw h) hne, ?_⟩
    rw [compress_ok (by intro r hr; simp at hr; rcases hr with rfl | rfl; exact hpr; exact h) (by simp)]
    obtain ⟨q', _, e, es⟩ := short_under1 hu hk
    have hqq : q' = q := by
      have := congrArg (List.take q.length) e
      have hl := congrArg List.length e
      simp at hl
      rw [List.take_left, List.take_append_of_le_length (by omega), List.take_of_length_le (by omega)] at this
      exact this.symm
    show (joinOn 44 [p, shortOf (q ++ 46 :: p) p], 0) = _
    rw [es, hqq]
    rfl

theorem slashes {p q : Str} (hp : kindOf p = 2) (hq : kindOf q = 2) (hne : p ≠ q) :
    (isR (p ++ q) = false → expandOf (p ++ 44 :: q) [65] [66] = ([], 2)) ∧ (isR (p ++ q) = true → expandOf (p ++ 44 :: q) [65] [66] = ([p, p ++ q], 0)) ∧
    expandOf (p ++ 44 :: 32 :: q) [65] [66] = ([p, q], 0) ∧ expandOf ([69, 68, 85] ++ 44 :: q) [65] [66] = ([[69, 68, 85], q], 0) := by
  have hpr := kind_isR (r := p) (by omega)
  have hqr := kind_isR (r := q) (by omega)
  have hraw : subRaw q p = some (p ++ q) := by
    unfold subRaw
    rw [if_neg (realm_nodot hqr), if_pos (realm_head2 hq), if_pos hp]
  refine ⟨fun h => ?_, fun h => ?_, ?_, ?_⟩
  · refine two_fields_none isA isB hpr (realm_comma hqr) (realm_nil hqr) ?_
    unfold subOf
    rw [hraw]
    simp only
    rw [h]
    rfl
  · refine two_fields isA isB hpr (realm_comma hqr) (realm_nil hqr) (sub_of_raw hraw h) (fun e => ?_)
    have h1 := congrArg List.length e
    rw [List.length_append] at h1
    have h2 := List.length_pos_iff.2 (realm_nil hqr)
    omega
  · refine two_fields isA isB hpr ?_ (by simp) (sub_blank p hq) hne
    rw [List.mem_cons]
    rintro (h | h)
    · cases h
    · exact realm_comma hqr h
  · refine two_fields isA isB isEdu (realm_comma hqr) (realm_nil hqr) (sub_of_raw ?_ hqr) (fun e => ?_)
    · unfold subRaw
      rw [if_neg (realm_nodot hqr), if_pos (realm_head2 hq), if_neg (by decide +kernel)]
    · rw [← e] at hq
      revert hq
      decide +kernel

/-- Realms as they are told: an other one behind a blank. -/
def blk (r : Str) : Str := if kindOf r = 2 then 32 :: r else r
theorem sub_blk {r : Str} (p : Str) (h : isR r = true) : subOf (blk r) p = some r := by
  unfold blk
  rcases isR_cases h with hk | hk
  · rw [if_neg (by omega)]; exact sub_dom p hk
  · rw [if_pos hk]; exact sub_blank p hk
theorem blk_nil {r : Str} (h : isR r = true) : blk r ≠ [] := by
  unfold blk
  split
  · simp
  · exact realm_nil h
theorem blk_comma {r : Str} (h : isR r = true) : 44 ∉ blk r := by
  unfold blk
  split
  · rw [List.mem_cons]
    rintro (h' | h')
    · cases h'
    · exact realm_comma h h'
  · exact realm_comma h
theorem exGo_blk (a b : Str) : ∀ (t : List Str) (p : Str) (l : List Str), (∀ r ∈ t, isR r = true) → (addsOf l t).length ≤ 8 → exGo a b (t.map blk) l p false = (addsOf l t, 0)
  | [], p, l, _, h8 => by
    rw [List.map_nil, exGo_nil]
    have e : fillOf a b l p false = l := rfl
    rw [e, if_neg (by have : (addsOf l []).length = l.length := rfl; omega)]
    rfl
  | r :: t, p, l, ht, h8 => by
    have hr := ht r (by simp)
    rw [List.map_cons, exGo_cons, if_neg (blk_nil hr), sub_blk p hr]
    have e : addOf (fillOf a r l p false) r = addOf l r := rfl
    simp only
    rw [addsOf_cons] at h8
    have h1 := (addsOf_len (addOf l r) t).1
    rw [e, if_neg (by omega), exGo_blk a b t r (addOf l r) (fun y hy => ht y (by simp [hy])) h8, addsOf_cons]
theorem twice {a b : Str} {l : List Str} (ha : isR a = true) (hb : isR b = true) (hl : ∀ r ∈ l, isR r = true) (h8 : (addsOf [] l).length ≤ 8) : expandOf (joinOn 44 ((l ++ l).map blk)) a b = (addsOf [] l, 0) := by
  have e2 : addsOf [] (l ++ l) = addsOf [] l := by
    rw [addsOf_append]
    exact addsOf_old (fun x hx => by rw [addsOf_mem]; exact .inr hx)
  by_cases h0 : l = []
  · subst h0
    unfold expandOf
    rw [if_neg (by rw [ha, hb]; simp)]
    rfl
  · have hm : ∀ x ∈ (l ++ l).map blk, 44 ∉ x := by
      intro x hx
      rw [List.mem_map] at hx
      obtain ⟨r, hr, rfl⟩ := hx
      simp at hr
      exact blk_comma (hl r hr)
    have hs := splitOn_joinOn 44 ((l ++ l).map blk) (by simp [h0]) hm
    have hne : joinOn 44 ((l ++ l).map blk) ≠ [] := by
      intro e
      rw [e] at hs
      obtain ⟨r, t, hrt⟩ : ∃ r t, l = r :: t := by cases l with | nil => exact absurd rfl h0 | cons r t => exact ⟨r, t, rfl⟩
      rw [hrt] at hs
      have : ([[]] : List Str).head? = some (blk r) := by
        have e1 : splitOn 44 [] = [[]] := rfl
        rw [e1] at hs
        rw [hs]
        simp
      simp only [List.head?_cons, Option.some.injEq] at this
      exact blk_nil (hl r (by rw [hrt]; simp)) this.symm
    rw [expand_go ha hb hne, hs, exGo_blk a b _ [] [] (by intro r hr; simp at hr; exact hl r hr) (by rw [e2]; exact h8), e2]

/-- Two texts side by side, as fields; and with a byte between them. -/
theorem split_mid (d : UInt8) (x y : Str) : ∃ A u v B, splitOn d (x ++ y) = A ++ (u ++ v) :: B ∧ ∀ c, c ≠ d → splitOn d (x ++ c :: y) = A ++ (u ++ c :: v) :: B := by
  induction x with
  | nil =>
    obtain ⟨v, B, h⟩ : ∃ v B, splitOn d y = v :: B := by
      cases h : splitOn d y with
      | nil => exact absurd h (splitOn_ne d y)
      | cons v B => exact ⟨v, B, rfl⟩
    refine ⟨[], [], v, B, by simpa using h, fun c hc => ?_⟩
    simp only [List.nil_append]
    rw [splitOn, if_neg hc, h]
  | cons b x ih =>
    obtain ⟨A, u, v, B, h1, h2⟩ := ih
    by_cases hb : b = d
    · refine ⟨[] :: A, u, v, B, ?_, fun c hc => ?_⟩
      · rw [List.cons_append, splitOn, if_pos hb, h1]
        rfl
      · rw [List.cons_append, splitOn, if_pos hb, h2 c hc]
        rfl
    · cases A with
      | nil =>
        refine ⟨[], b :: u, v, B, ?_, fun c hc => ?_⟩
        · rw [List.cons_append, splitOn, if_neg hb, h1]
          rfl
        · rw [List.cons_append, splitOn, if_neg hb, h2 c hc]
          rfl
      | cons z A =>
        refine ⟨(b :: z) :: A, u, v, B, ?_, fun c hc => ?_⟩
        · rw [List.cons_append, splitOn, if_neg hb, h1]
          rfl
        · rw [List.cons_append, splitOn, if_neg hb, h2 c hc]
          rfl

theorem sub_junk {s p : Str} {c : UInt8} (h : c ∈ s) (h1 : c.toNat < 65 ∨ 90 < c.toNat) (h2 : c ≠ 46) (h3 : c ≠ 47) (h4 : c ≠ 32) : subOf s p = none := by
  have key : ∀ r, subRaw s p = some r → c ∈ r := by
    intro r hr
    unfold subRaw at hr
    split at hr
    · split at hr
      · cases hr
      · simp only [Option.some.injEq] at hr
        rw [← hr]
        simp [h]
    · split at hr
      · split at hr
        · simp only [Option.some.injEq] at hr
          rw [← hr]
          simp [h]
        · simp only [Option.some.injEq] at hr
          rw [← hr]
          exact h
      · split at hr
        · rename_i hh
          split at hr
          · simp only [Option.some.injEq] at hr
            rw [← hr]
            cases s with
            | nil => simp at h
            | cons z t =>
              simp only [List.head?_cons, Option.some.injEq] at hh
              rw [List.mem_cons] at h
              rcases h with h | h
              · exact absurd (h.trans hh) h4
              · exact h
          · cases hr
        · simp only [Option.some.injEq] at hr
          rw [← hr]
          exact h
  unfold subOf
  split
  · rfl
  · rename_i r hr
    rw [if_neg]
    rw [not_isR_byte (key r hr) h1 h2 h3]
    simp
theorem junk {m : List Str} {c : UInt8} {k : Nat} (hm : ∀ r ∈ m, isR r = true) (hn : m.Nodup) (h8 : m.length ≤ 8) (h0 : m ≠ []) (h1 : c.toNat < 65 ∨ 90 < c.toNat) (h2 : c ≠ 46) (h3 : c ≠ 47) (h4 : c ≠ 32) (h5 : c ≠ 44) :
    expandOf ((joinOn 44 (shorts m)).take k ++ c :: (joinOn 44 (shorts m)).drop k) [65] [66] = ([], 2) := by
  have hs0 : shorts m ≠ [] := by
    intro e
    have := shorts_len m
    rw [e] at this
    exact h0 (List.length_eq_zero_iff.1 this.symm)
  obtain ⟨A, u, v, B, e1, e2⟩ := split_mid 44 ((joinOn 44 (shorts m)).take k) ((joinOn 44 (shorts m)).drop k)
  rw [List.take_append_drop, splitOn_joinOn 44 (shorts m) hs0 (fun x hx => (shorts_mem hm x hx).2)] at e1
  have hA : A = shorts (m.take A.length) := by
    rw [← shorts_take, e1, List.take_left]
  rw [expand_go isA isB (by simp), e2 c h5, hA, exGo_all [65] [66] _ (m.take A.length) (fun r hr => hm r (List.mem_of_mem_take hr)) ((List.take_sublist A.length m).nodup hn) (by simp; omega), exGo_cons, if_neg (by simp), sub_junk (c := c) (by simp) h1 h2 h3 h4]

theorem insert_in {m : List Str} {a b r : Str} (hm : ∀ x ∈ m, isR x = true) (hn : m.Nodup) (h8 : m.length ≤ 8) (ha : isR a = true) (hb : isR b = true) (hr : isR r = true) :
    insertOf (joinOn 44 (shorts m)) a b r = if r = a ∨ r = b ∨ r ∈ m then (joinOn 44 (shorts m), 0) else compressOf (m ++ [r]) := by
  unfold insertOf
  rw [expand_compress hm hn h8 ha hb]
  simp only
  rw [if_neg (by simp), if_neg (by rw [hr]; simp)]

/-- The realms A.EDU, B.EDU, .., and they as a text. -/
def alph (n : Nat) : List Str := (List.range n).map fun i => [UInt8.ofNat (65 + i), 46, 69, 68, 85]
theorem alph_succ (n : Nat) : alph (n + 1) = alph n ++ [[UInt8.ofNat (65 + n), 46, 69, 68, 85]] := by simp [alph, List.range_succ]
theorem full : ∀ n < 21, (compressOf (alph n)).2 = (if 8 < n then 13 else 0) ∧ expandOf (joinOn 44 (alph n)) [67] [68] = if 8 < n then ([], 13) else (alph n, 0) := by decide +kernel

theorem ends_expand {s a b : Str} (h : isR a = false ∨ isR b = false) : expandOf s a b = ([], 1) := by
  unfold expandOf
  rw [if_pos h]
theorem ends_insert {s a b r : Str} (h : isR a = false ∨ isR b = false) : insertOf s a b r = ([], 1) := by
  unfold insertOf
  rw [ends_expand h]
  rfl
theorem ends_compress : compressOf [[69, 68, 85], [101, 100, 117]] = ([], 1) := by decide +kernel

theorem known1 : expandOf [69, 68, 85, 44, 77, 73, 84, 46, 44, 65, 84, 72, 69, 78, 65, 46, 44, 87, 65, 83, 72, 46, 69, 68, 85, 44, 67, 83, 46] [65] [66] =
    ([[69, 68, 85], [77, 73, 84, 46, 69, 68, 85], [65, 84, 72, 69, 78, 65, 46, 77, 73, 84, 46, 69, 68, 85], [87, 65, 83, 72, 46, 69, 68, 85], [67, 83, 46, 87, 65, 83, 72, 46, 69, 68, 85]], 0) := by decide +kernel
theorem known2 : expandOf [47, 67, 79, 77, 44, 47, 72, 80, 44, 47, 65, 80, 79, 76, 76, 79, 44, 32, 47, 67, 79, 77, 47, 68, 69, 67] [65] [66] =
    ([[47, 67, 79, 77], [47, 67, 79, 77, 47, 72, 80], [47, 67, 79, 77, 47, 72, 80, 47, 65, 80, 79, 76, 76, 79], [47, 67, 79, 77, 47, 68, 69, 67]], 0) := by decide +kernel
end Go.Proofs.YtjbdegcmolimoaaDoor
