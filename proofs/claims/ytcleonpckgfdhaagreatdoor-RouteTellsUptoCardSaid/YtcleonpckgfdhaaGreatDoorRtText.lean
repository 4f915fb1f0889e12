/-
  Routes in plain Lean: realms, links, ways laid down; what stands between, the next one, the way; what may be.
-/
import Derived.Test.YtcleonpckgfdhaaGreatDoorWayText2
import Derived.Test.YtcleonpckgfdhaaGreatDoorRefBet
set_option linter.unusedVariables false
set_option linter.unusedSimpArgs false
namespace Go.Proofs.YtcleonpckgfdhaaGreatDoor

abbrev Link := Str × Str
abbrev Way := (Str × Str) × List Str
structure Topo where
  realms : List Str
  links : List Link
  paths : List Way

def linkedOf (T : Topo) (a b : Str) : Bool := decide ((a, b) ∈ T.links)
def laidOf (T : Topo) (a b : Str) : Option (List Str) := (T.paths.find? fun p => decide (p.1 = (a, b))).map (·.2)
def viaOf (T : Topo) (a b : Str) : List Str := match laidOf T a b with
  | some v => v
  | none => betOf a b
def wayTo (T : Topo) (a b : Str) : List Str := match laidOf T a b with
  | some v => (v ++ [b]).take 1
  | none => betOf a b ++ [b]
def nextOf (T : Topo) (a b : Str) : Option Str := if a = b then none else (wayTo T a b).reverse.find? fun r => linkedOf T a r
/-- The realms come by: those seen, and where one stands. -/
def walkGo (T : Topo) (b : Str) : Nat → List Str → Str → Option (List Str)
  | 0, _, _ => none
  | f + 1, seen, at' => if at' = b then some seen else match nextOf T at' b with
    | none => none
    | some n => if n ∈ seen ∨ (5 < seen.length ∧ n ≠ b) then none else walkGo T b f (seen ++ [n]) n
def walkOf (T : Topo) (a b : Str) : Option (List Str) := (walkGo T b 8 [a] a).map fun s => (s.drop 1).dropLast
def allowedOf (T : Topo) (a b : Str) (l : List Str) : Bool := l.all fun r => decide (r ∈ viaOf T a b)

def wayOk (R : List Str) (p : Way) : Prop := p.1.1 ∈ R ∧ p.1.2 ∈ R ∧ p.1.1 ≠ p.1.2 ∧ p.2.length ≤ 4 ∧ p.2.Nodup ∧ ∀ r ∈ p.2, r ∈ R ∧ r ≠ p.1.1 ∧ r ≠ p.1.2
instance (R : List Str) (p : Way) : Decidable (wayOk R p) := by unfold wayOk; exact inferInstance
def linkOk (R : List Str) (l : Link) : Prop := l.1 ∈ R ∧ l.2 ∈ R ∧ l.1 ≠ l.2
instance (R : List Str) (l : Link) : Decidable (linkOk R l) := by unfold linkOk; exact inferInstance
def topoOk (T : Topo) : Prop := (1 ≤ T.realms.length ∧ T.realms.length ≤ 6 ∧ T.realms.Nodup ∧ ∀ r ∈ T.realms, isR r = true) ∧ (T.links.length ≤ 20 ∧ T.links.Nodup ∧ ∀ l ∈ T.links, linkOk T.realms l) ∧ (T.paths.length ≤ 8 ∧ (T.paths.map (·.1)).Nodup ∧ ∀ p ∈ T.paths, wayOk T.realms p)
instance (T : Topo) : Decidable (topoOk T) := by unfold topoOk; exact inferInstance

theorem get_app_left (l m : List Str) (i : Nat) (h : i < l.length) : (l ++ m)[i]! = l[i]! := by
  rw [getElem!_pos (l ++ m) i (by simp; omega), getElem!_pos l i h, List.getElem_append_left h]
theorem next_linked {T : Topo} {a b n : Str} (h : nextOf T a b = some n) : linkedOf T a n = true ∧ a ≠ b := by
  unfold nextOf at h
  split at h
  · cases h
  · exact ⟨List.find?_some (p := fun r => linkedOf T a r) h, ‹_›⟩
theorem next_mem {T : Topo} {a b n : Str} (h : nextOf T a b = some n) : n ∈ wayTo T a b := by
  unfold nextOf at h
  split at h
  · cases h
  · simpa using List.mem_of_find?_eq_some h

/-- What the way's realms are: linked, each once. -/
theorem walkGo_ok (T : Topo) (b : Str) : ∀ (f : Nat) (seen : List Str) (x : Str) (s : List Str), walkGo T b f (seen ++ [x]) x = some s → (seen ++ [x]).Nodup → (∀ i, i + 1 < (seen ++ [x]).length → linkedOf T (seen ++ [x])[i]! (seen ++ [x])[i + 1]! = true) → (seen ++ [x]).length ≤ 7 → (x = b ∨ (seen ++ [x]).length ≤ 6) →
    s.Nodup ∧ (∀ i, i + 1 < s.length → linkedOf T s[i]! s[i + 1]! = true) ∧ s.length ≤ 7 ∧ (∃ p, s = seen ++ [x] ++ p) ∧ ∃ p, s = p ++ [b] := by
  intro f
  induction f with
  | zero => intro seen x s h; cases h
  | succ f ih =>
    intro seen x s h hn hl h7 h6
    rw [walkGo] at h
    split at h
    · rename_i e
      simp only [Option.some.injEq] at h
      subst h
      exact ⟨hn, hl, h7, ⟨[], by simp⟩, seen, by rw [e]⟩
    · rename_i hne
      split at h
      · cases h
      · rename_i n hnx
        split at h
        · cases h
        · rename_i hc
          simp only [not_or, not_and, Decidable.not_not] at hc
          have hlen : (seen ++ [x]).length ≤ 6 := by
            rcases h6 with e | e
            · exact absurd e hne
            · exact e
          have := ih (seen ++ [x]) n s h ?_ ?_ ?_ ?_
          · obtain ⟨h1, h2, h3, ⟨p, h4⟩, h5⟩ := this
            exact ⟨h1, h2, h3, ⟨n :: p, by rw [h4]; simp⟩, h5⟩
          · rw [List.nodup_append]
            refine ⟨hn, by simp, ?_⟩
            intro y hy z hz e
            simp only [List.mem_singleton] at hz
            subst hz
            subst e
            exact hc.1 hy
          · intro i hi
            simp only [List.length_append, List.length_singleton] at hi
            by_cases hi2 : i + 1 < (seen ++ [x]).length
            · have := hl i hi2
              have hl2 : (seen ++ [x] ++ [n]).length = (seen ++ [x]).length + 1 := by simp
              rw [get_app_left _ _ i (by omega), get_app_left _ _ (i + 1) hi2]
              exact this
            · have hi3 : i = seen.length := by
                rw [List.length_append, List.length_singleton] at hi2
                omega
              subst hi3
              have e1 : (seen ++ [x] ++ [n])[seen.length]! = x := by
                rw [getElem!_pos _ _ (by simp), List.getElem_append_left (by simp), List.getElem_append_right (by simp)]
                simp
              have e2 : (seen ++ [x] ++ [n])[seen.length + 1]! = n := by
                rw [getElem!_pos _ _ (by simp), List.getElem_append_right (by simp)]
                simp
              rw [e1, e2]
              exact (next_linked hnx).1
          · simp at hlen ⊢; omega
          · by_cases e : n = b
            · exact .inl e
            · right
              by_cases h5 : 5 < (seen ++ [x]).length
              · exact absurd (hc.2 h5) e
              · simp at h5 ⊢; omega

theorem walk_self (T : Topo) (a : Str) : walkOf T a a = some [] := by
  unfold walkOf
  rw [walkGo, if_pos rfl]
  rfl

/-- **THE WAY.** From its beginning to its end, along links, each once, at most five between. -/
theorem walk_ok {T : Topo} {a b : Str} {l : List Str} (h : walkOf T a b = some l) (hne : a ≠ b) : ([a] ++ l ++ [b]).Nodup ∧ (∀ i, i + 1 < ([a] ++ l ++ [b]).length → linkedOf T ([a] ++ l ++ [b])[i]! ([a] ++ l ++ [b])[i + 1]! = true) ∧ l.length ≤ 5 := by
  unfold walkOf at h
  rw [Option.map_eq_some_iff] at h
  obtain ⟨s, hs, rfl⟩ := h
  have := walkGo_ok T b 8 [] a s hs (by simp) (by intro i hi; simp at hi) (by simp) (by simp)
  obtain ⟨h1, h2, h3, ⟨p, h4⟩, ⟨q, h5⟩⟩ := this
  have hp : p ≠ [] := by
    intro e
    rw [e, h5] at h4
    have : q = [] ∧ b = a := by
      cases q with
      | nil => simpa using h4
      | cons y q => simp at h4
    exact hne this.2.symm
  have e : [a] ++ (s.drop 1).dropLast ++ [b] = s := by
    obtain ⟨p', z, rfl⟩ : ∃ p' z, p = p' ++ [z] := ⟨p.dropLast, p.getLast hp, (List.dropLast_concat_getLast hp).symm⟩
    have hz : z = b := by
      rw [h5] at h4
      have := congrArg List.getLast? h4
      rw [← List.append_assoc, List.getLast?_concat, List.getLast?_concat] at this
      exact (Option.some.inj this).symm
    rw [h4, hz]
    simp
  rw [e]
  refine ⟨h1, h2, ?_⟩
  have := congrArg List.length e
  simp only [List.length_append, List.length_singleton] at this
  omega

theorem find_first {T : Topo} {a b : Str} {l : List Str} (h : linkedOf T a b = true) : (l ++ [b]).reverse.find? (fun r => linkedOf T a r) = some b := by
  rw [List.reverse_append]
  simp [h]

/-- Two that are linked, nothing laid down between them. -/
theorem next_direct {T : Topo} {a b : Str} (hne : a ≠ b) (h : linkedOf T a b = true) (hl : laidOf T a b = none) : nextOf T a b = some b ∧ walkOf T a b = some [] := by
  have e : nextOf T a b = some b := by
    unfold nextOf wayTo
    rw [if_neg hne, hl]
    exact find_first h
  refine ⟨e, ?_⟩
  unfold walkOf
  rw [walkGo, if_neg hne, e]
  simp only
  rw [if_neg (by simp; exact fun h => hne h.symm), walkGo, if_pos rfl]
  rfl

theorem laid_none {T : Topo} {a b : Str} : laidOf T a b = none ↔ ∀ p ∈ T.paths, p.1 ≠ (a, b) := by
  unfold laidOf
  rw [Option.map_eq_none_iff, List.find?_eq_none]
  simp

/-- Without links. -/
theorem walk_nolinks {T : Topo} (h : T.links = []) (a b : Str) : nextOf T a b = none ∧ walkOf T a b = if a = b then some [] else none := by
  have hk : ∀ r, linkedOf T a r = false := fun r => by unfold linkedOf; rw [h]; simp
  have e : nextOf T a b = none := by
    unfold nextOf
    split
    · rfl
    · rw [List.find?_eq_none]
      intro x hx
      simp [hk]
  refine ⟨e, ?_⟩
  unfold walkOf
  rw [walkGo]
  split
  · rfl
  · rw [e]; rfl
end Go.Proofs.YtcleonpckgfdhaaGreatDoor
