/-
  A part of a claim: lemmas and contracts of functions of the program; each theorem says what is proved, and its conditions.
-/
import Derived.Test.YthgdekcbagbbkaaGlue3
open Go Go.RowKit
namespace Go.Proofs.X
/-- what a nozzle gives, with a cause -/
def gvF (s t kind b : Int) : Int :=
  if kind = 1 then 0
  else if kind = 2 then (((t.toNat ||| (2 * t).toNat) &&& (2 ^ s.toNat - 1 : Nat) : Nat) : Int)
  else if kind = 3 then ((t.toNat &&& (2 * t).toNat : Nat) : Int)
  else if b % 2 = 1 then 0 else t
theorem gvF_bd (s t kind b : Int) (t1 : 0 ≤ t) (t2 : t ≤ 65535) (s2 : s ≤ 16) : 0 ≤ gvF s t kind b ∧ gvF s t kind b ≤ 65535 := by
  have h1 : (t.toNat ||| (2 * t).toNat) &&& (2 ^ s.toNat - 1) ≤ 2 ^ s.toNat - 1 := Nat.and_le_right
  have h2 : 2 ^ s.toNat ≤ 2 ^ 16 := Nat.pow_le_pow_right (by omega) (by omega)
  have h3 : t.toNat &&& (2 * t).toNat ≤ t.toNat := Nat.and_le_left
  unfold gvF
  split
  · omega
  · split
    · omega
    · split
      · omega
      · split <;> omega
theorem glue_gives (s : Int) (nv : Value) (t k b : Int) (w : World) (s1 : 1 ≤ s) (s2 : s ≤ 16) (t1 : 0 ≤ t) (t2 : t ≤ 65535) (hk1 : 1 ≤ k) (hk2 : k ≤ 4) (hb : 0 ≤ b) :
    Calls Try.prog 31 #[.agg #[.int .i64 s, nv], .int .i64 t, .int .i64 k, .int .i64 b] w fun e w' => e = .returned (.int .i64 (gvF s t k b)) ∧ Below w.heap.size w w' := by
  obtain ⟨r, hr⟩ : ∃ r, r = gvF s t k b := ⟨_, rfl⟩
  have hp := pow2_bd (k := s.toNat) (m := 16) (by omega)
  have hpn : (2 : Int) ^ s.toNat = ((2 ^ s.toNat : Nat) : Int) := pow2_int _
  rw [← hr]
  have hm := wrap64_mask (s := s) (by omega) s2
  have Hp := Lib.hid hp
  have Hpn := Lib.hid hpn
  have Hm := Lib.hid hm
  clear hp hpn hm
  obtain rfl | rfl | rfl | rfl : k = 1 ∨ k = 2 ∨ k = 3 ∨ k = 4 := by omega
  · simp [gvF] at hr
    have Hr := Lib.hid hr
    clear hr
    go_enter Try.func31, Try.ntmps31
    go_wp2
    go_ret
    exact ⟨by rw [Hr.out]; rfl, below_alloc _ _⟩
  · have Hr := Lib.hid hr
    clear hr
    go_enter Try.func31, Try.ntmps31
    go_wp2
    go_ret
    refine ⟨?_, below_alloc _ _⟩
    have e : bits BinOp.and IntKind.i64 (bits BinOp.or IntKind.i64 t (t * 2)) (wrap64 (wrap64 (2 ^ s.toNat) - 1)) = r := by
      have h1 := Hp.out
      have h2 := Hpn.out
      have ho : t.toNat ||| (t * 2).toNat < 2 ^ 17 := Nat.or_lt_two_pow (by omega) (by omega)
      rw [Hr.out, Hm.out, i64_or _ _ (by omega) (by omega) (by omega) (by omega), i64_and _ _ (by omega) (by omega) (by omega) (by omega)]
      simp only [gvF, if_neg (show ¬ (2 : Int) = 1 by omega), if_pos]
      rw [Int.toNat_natCast, show (2 ^ s.toNat - 1 : Int).toNat = 2 ^ s.toNat - 1 by omega, Int.mul_comm]
    rw [← e]; rfl
  · have Hr := Lib.hid hr
    clear hr
    go_enter Try.func31, Try.ntmps31
    go_wp2
    go_ret
    refine ⟨?_, below_alloc _ _⟩
    have e : bits BinOp.and IntKind.i64 t (t * 2) = r := by
      rw [Hr.out, i64_and _ _ (by omega) (by omega) (by omega) (by omega)]
      simp only [gvF, if_neg (show ¬ (3 : Int) = 1 by omega), if_neg (show ¬ (3 : Int) = 2 by omega), if_pos]
      rw [Int.mul_comm]
    rw [← e]; rfl
  · by_cases hbb : b % 2 = 1
    · simp [gvF, hbb] at hr
      have Hr := Lib.hid hr
      clear hr
      go_enter Try.func31, Try.ntmps31
      go_wp2
      go_ret
      exact ⟨by rw [Hr.out]; rfl, below_alloc _ _⟩
    · simp [gvF, hbb] at hr
      have Hr := Lib.hid hr
      clear hr
      go_enter Try.func31, Try.ntmps31
      go_wp2
      go_ret
      exact ⟨by rw [Hr.out]; rfl, below_alloc _ _⟩
end Go.Proofs.X
