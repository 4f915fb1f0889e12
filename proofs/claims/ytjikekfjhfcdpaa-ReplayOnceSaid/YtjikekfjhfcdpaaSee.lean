/-
  replay.See: what it answers, and what it leaves.
-/
import Derived.Test.YtjikekfjhfcdpaaDel2
import Derived.Deep.QuietTactic
import Derived.BigQuiet
import Derived.RegionTactic
import Derived.ChangeAlike
import Derived.Maps.AppendAt
set_option linter.unusedVariables false
set_option linter.unusedSimpArgs false
namespace Go.Proofs.Ytjikekfjhfcdpaa
open Go Go.RowKit Go.Lib Go.Shelf

/-! ### '==' of an authenticator -/
section
variable {P : Program} {d : Nat} {xs ys : Array Value} {f : Field} {fs : List Field} {a b : Value} {r s : Bool} {w : World}
theorem fields_one (hn : (f.name == "_") = false) (ha : (part f.type xs f.offset).run P w = .ok a w) (hb : (part f.type ys f.offset).run P w = .ok b w) (he : (Op.equalIn d f.type a b).run P w = .ok r w) : (Op.eqFields d xs ys [f]).run P w = .ok r w := by
  have h1 : f.name ≠ "_" := by simpa using hn
  simp only [Op.eqFields, if_pos h1, Sem.run_bind, ha, hb, he, Result.andThen_ok]
  cases r <;> simp
theorem fields_more (hn : (f.name == "_") = false) (ha : (part f.type xs f.offset).run P w = .ok a w) (hb : (part f.type ys f.offset).run P w = .ok b w) (he : (Op.equalIn d f.type a b).run P w = .ok r w) (hr : (Op.eqFields d xs ys fs).run P w = .ok s w) : (Op.eqFields d xs ys (f :: fs)).run P w = .ok (r && s) w := by
  have h1 : f.name ≠ "_" := by simpa using hn
  rw [Op.eqFields]
  simp only [if_pos h1, Sem.run_bind, ha, hb, he, Result.andThen_ok]
  cases r
  · simp
  · simpa using hr
theorem struct_eq {t : TypeId} {fs : Array Field} (hu : P.underlying t = some (.struct fs)) (hp : P.stoodInHeld t = false) (h : (Op.eqFields d xs ys fs.toList).run P w = .ok r w) : (Op.equalIn (d + 1) t (.agg xs) (.agg ys)).run P w = .ok r w := by
  have hf : P.fieldsOf t = fs := by simp [Program.fieldsOf, hu]
  rw [run_equalIn_struct (P := P) w d t xs ys (by rw [hf]; exact hu) hp, hf]
  exact h
end

theorem eqPrinc (d : Nat) (w : World) (a b c e : ByteArray) : (Op.equalIn (d + 2) 27 (.agg #[.string a, .string b]) (.agg #[.string c, .string e])).run Try.prog w = .ok (a.toList == c.toList && b.toList == e.toList) w := by
  have u9 := Try.underlying9
  have a9 := Try.isAgg9
  have z9 := Try.sizeOf9
  refine struct_eq Try.underlying27 (by kernel_rfl) ?_
  refine fields_more (by rfl) (by go_simp; rfl) (by go_simp; rfl) (by go_simp) ?_
  exact fields_one (by rfl) (by go_simp; rfl) (by go_simp; rfl) (by go_simp)

theorem eqAuIn (d : Nat) (w : World) (x y : Au) : (Op.equalIn (d + 3) 29 (.agg (enc x).toArray) (.agg (enc y).toArray)).run Try.prog w = .ok ((x.realm.toList == y.realm.toList && x.name.toList == y.name.toList) && (x.time == y.time && x.seq == y.seq)) w := by
  have u3 := Try.underlying3
  have a3 := Try.isAgg3
  have z3 := Try.sizeOf3
  have a27 := Try.isAgg27
  have z27 := Try.sizeOf27
  refine struct_eq Try.underlying29 (by kernel_rfl) ?_
  simp only [enc]
  refine fields_more (by rfl) (by go_simp) (by go_simp) (eqPrinc d w _ _ _ _) ?_
  refine fields_more (by rfl) (by go_simp; rfl) (by go_simp; rfl) (by go_simp) ?_
  exact fields_one (by rfl) (by go_simp; rfl) (by go_simp; rfl) (by go_simp)

theorem eqAu : EqlAt Try.prog 29 (fun x => .agg (enc x).toArray) same := by
  refine ⟨fun x y w => ?_, GuardAt.agg _ (by kernel_rfl)⟩
  rw [run_eql_struct, show (10000 : Nat) = 9997 + 3 from rfl, eqAuIn]
  simp only [Result.andThen_ok, same, Bool.and_assoc]

theorem contains_any (w : World) (g n cap : Nat) (zs : List Au) (tl : List Value) (x : Au) (hrow : RowAt w g zs tl) (hlen : zs.length = n) (hbig : n ≤ 9223372036854775807) :
    Calls Try.prog 21 #[.slice (some ⟨g, 0, none⟩) n cap, .agg #[.string x.realm, .string x.name, .int .i64 x.time, .int .i64 x.seq]] w fun e w' => e = .returned (.bool (zs.any (same x))) ∧ Below w.heap.size w w' := by
  have := AnyQ.slices_Contains Try.laysContains 4 Try.isAgg29 Try.sizeOf29 enc enc_length same eqAu g 0 n cap zs x w (by omega) hbig (fun j hj i v hi => by
      have hi4 : i < 4 := by have := (List.getElem?_eq_some_iff.1 hi).1; rwa [enc_length] at this
      rw [Nat.zero_add, hrow.cell hj hi4]; exact hi)
  rw [List.take_of_length_le (by omega)] at this
  exact this

theorem index_nil (w : World) (cap : Nat) (x : Au) : Calls Try.prog 23 #[.slice none 0 cap, .agg #[.string x.realm, .string x.name, .int .i64 x.time, .int .i64 x.seq]] w fun e w' => e = .returned (.int .i64 (-1)) ∧ Below w.heap.size w w' := by
  go_enter Try.func23, Try.ntmps23
  go_wp2
  go_loopg [5, 8] 0 (fun _ _ s8 wr => s8 = .int .i64 0 ∧ Below w.heap.size w wr)
  case atStart => exact ⟨rfl, (Below.refl _ w).alloc (Nat.le_refl _) _⟩
  case round =>
    obtain ⟨rfl, hb⟩ := hrel
    go_wp2
    go_ret
    exact ⟨rfl, hb⟩

theorem contains_nil (w : World) (cap : Nat) (x : Au) : Calls Try.prog 21 #[.slice none 0 cap, .agg #[.string x.realm, .string x.name, .int .i64 x.time, .int .i64 x.seq]] w fun e w' => e = .returned (.bool false) ∧ Below w.heap.size w w' := by
  go_enter Try.func21, Try.ntmps21
  go_wp2_with (go_at_call 23; refine (index_nil _ _ _).mono ?_; rintro e w' ⟨rfl, hb⟩)
  go_ret
  exact ⟨rfl, ((Below.refl _ w).alloc (Nat.le_refl _) _).trans (hb.mono (by simp))⟩

end Go.Proofs.Ytjikekfjhfcdpaa
