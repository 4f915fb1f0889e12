/-
  legatelaw7.pick.
-/
import Derived.Test.YtcleonpckgfdhaaGreatDoorRtBig
set_option linter.unusedVariables false
set_option linter.unusedSimpArgs false
set_option maxRecDepth 100000
namespace Go.Proofs.YtcleonpckgfdhaaGreatDoor
open Go Go.RowKit Go.Lib Go.Shelf

theorem i64_and1023 (n : Int) : bits .and .i64 n 1023 = n % 1024 := by
  have h3 : (BitVec.ofInt 64 1023).toNat = 2 ^ 10 - 1 := by decide
  have key : (BitVec.ofInt 64 n &&& BitVec.ofInt 64 1023).toNat = (n % ((2 ^ 64 : Nat) : Int)).toNat % 2 ^ 10 := by
    rw [BitVec.toNat_and, BitVec.toNat_ofInt, h3, Nat.and_two_pow_sub_one_eq_mod]
  show IntKind.i64.wrap ((BitVec.ofInt 64 n &&& BitVec.ofInt 64 1023).toNat : Nat) = n % 1024
  rw [key, IntKind.wrap_i64]
  omega

/-- The realm that pick picks. -/
def pickAt (T : Topo) (k : Int) : Nat := ((k % 1024) % (T.realms.length : Int)).toNat
def pickOf (T : Topo) (k : Int) : Str := T.realms[pickAt T k]!
theorem pick_lt {T : Topo} (h : 1 ≤ T.realms.length) (k : Int) : pickAt T k < T.realms.length := by
  unfold pickAt
  have h1 := Int.emod_nonneg (k % 1024) (show (T.realms.length : Int) ≠ 0 by omega)
  have h2 := Int.emod_lt_of_pos (k % 1024) (show (0 : Int) < (T.realms.length : Int) by omega)
  omega
theorem pick_mem {T : Topo} (h : 1 ≤ T.realms.length) (k : Int) : pickOf T k ∈ T.realms := by
  unfold pickOf
  rw [getElem!_pos T.realms (pickAt T k) (pick_lt h k)]
  exact List.getElem_mem _

set_option maxHeartbeats 1000000 in
theorem pick_any (w : World) (v : Tv) (T : Topo) (k : Int) (hT : Tt w v T) (h1 : 1 ≤ v.nr) (h2 : v.nr ≤ 1000) :
    Calls Tryz.prog 6 #[.agg #[.slice v.ar v.nr v.cr, .slice v.al v.nl v.cl, .slice v.ap v.np v.cp], .int .i64 k] w fun e w' => e = .returned (.string ⟨(pickOf T k).toArray⟩) ∧ Below w.heap.size w w' := by
  obtain ⟨ar, nr, cr, al, nl, cl, ap, np, cp⟩ := v
  dsimp only at h1 h2 ⊢
  have hl : T.realms.length = nr := hT.r.len
  have hlt := pick_lt (T := T) (by omega) k
  obtain ⟨b, off, hb, hbl, hc⟩ := hT.r.cell (show 0 < nr by omega)
  have c0 := hc (pickAt T k) (by rw [hl] at hlt; exact hlt)
  rw [show T.realms[pickAt T k]! = pickOf T k from rfl] at c0
  have hand := i64_and1023 k
  have hmod : (k % 1024).tmod (nr : Int) = ((pickAt T k : Nat) : Int) := by
    have h0 : 0 ≤ k % 1024 := Int.emod_nonneg _ (by omega)
    rw [Int.tmod_eq_emod_of_nonneg h0]
    unfold pickAt
    rw [hl]
    have := Int.emod_nonneg (k % 1024) (show (nr : Int) ≠ 0 by omega)
    omega
  have hnz : ((nr : Int) == 0) = false := by simp; omega
  have hpz : ((pickAt T k : Nat) : Int) < (nr : Int) := by rw [hl] at hlt; omega
  have hp0 : (0 : Int) ≤ ((pickAt T k : Nat) : Int) := by omega
  have hnr : (nr : Int) ≠ 0 := by omega
  generalize pickOf T k = y at c0 ⊢
  generalize pickAt T k = p at c0 hmod hpz hp0 hlt
  have hw : IntKind.i64.wrap (p : Int) = (p : Int) := IntWalk.i64_in _ (by omega)
  subst hb
  clear hT hc hl hlt
  go_enter Tryz.func6, Tryz.ntmps6
  go_wp2_with fail
  go_quiet (fail)
  go_wp2
  go_ret
  exact ⟨rfl, below_drewN ((Below.refl _ _).alloc (Nat.le_refl _) _) _⟩
end Go.Proofs.YtcleonpckgfdhaaGreatDoor
