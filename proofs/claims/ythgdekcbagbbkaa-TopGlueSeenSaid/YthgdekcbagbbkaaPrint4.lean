/-
  A part of a claim: lemmas and contracts of functions of the program; each theorem says what is proved, and its conditions.
-/
import Derived.Test.YthgdekcbagbbkaaPrint3
open Go Go.RowKit
namespace Go.Proofs.X
/-- the bit of a row -/
def bitAt (r x : Int) : Nat := r.toNat / 2 ^ x.toNat % 2
def lookTo (sh : List (List Int)) (x y : Int) : Nat → Nat
  | 0 => 0
  | k + 1 => lookTo sh x y k ||| (match sh[k]? with | some r => bitAt (r.getD y.toNat 0) x * 2 ^ k | none => 0)
theorem bitAt_lt (r x : Int) : bitAt r x < 2 := Nat.mod_lt _ (by omega)
theorem lookTo_lt (sh x y k) : lookTo sh x y k < 2 ^ k := by
  induction k with
  | zero => simp [lookTo]
  | succ k ih =>
    simp only [lookTo]
    refine Nat.or_lt_two_pow (Nat.lt_of_lt_of_le ih (Nat.pow_le_pow_right (by omega) (by omega))) ?_
    cases sh[k]? with
    | none => exact Nat.pow_pos (by omega)
    | some r =>
      have := bitAt_lt (r.getD y.toNat 0) x
      simp only
      rw [Nat.pow_succ, Nat.mul_comm]
      exact (Nat.mul_lt_mul_left (Nat.pow_pos (by omega))).2 this
theorem look_val (r x : Int) (k L : Nat) (hr : 0 ≤ r) (hr2 : r < 1024) (hx : 0 ≤ x) (hx2 : x ≤ 10) (hk : k ≤ 2) (hL : L < 8) :
    bits BinOp.or IntKind.i64 (L : Int) (wrap64 (bits BinOp.and IntKind.i64 (r / 2 ^ x.toNat) 1 * 2 ^ k)) = ((L ||| bitAt r x * 2 ^ k : Nat) : Int) := by
  obtain ⟨R, rfl⟩ := Int.eq_ofNat_of_zero_le hr
  have e1 : (R : Int) / 2 ^ x.toNat = ((R / 2 ^ x.toNat : Nat) : Int) := by
    rw [pow2_int]
    exact (Int.natCast_ediv _ _).symm
  have h1 : R / 2 ^ x.toNat ≤ R := Nat.div_le_self _ _
  have e2 : bits BinOp.and IntKind.i64 ((R / 2 ^ x.toNat : Nat) : Int) 1 = ((bitAt R x : Nat) : Int) := by
    have := i64_and_nat (R / 2 ^ x.toNat) 1 (by omega) (by omega)
    rw [show ((1 : Nat) : Int) = 1 from rfl] at this
    rw [this, Nat.and_one_is_mod]
    simp [bitAt]
  have h2 := bitAt_lt R x
  have h3 : 2 ^ k ≤ 2 ^ 2 := Nat.pow_le_pow_right (by omega) hk
  have h4 : bitAt R x * 2 ^ k ≤ 1 * 4 := Nat.mul_le_mul (by omega) (by omega)
  have e3 : ((bitAt R x : Nat) : Int) * 2 ^ k = ((bitAt R x * 2 ^ k : Nat) : Int) := by simp
  rw [e1, e2, e3, wrap64_in (by omega) (by omega), i64_or_nat _ _ (by omega) (by omega)]
set_option maxRecDepth 100000 in
theorem print_look (a : Option Addr) (n c : Nat) (vs : List Value) (sh : List (List Int)) (x y : Int) (H : Nat) (w : World) (hs : Sl1 w a n c vs) (hr : Rows2 w vs sh) (hn : (n : Int) ≤ 3) (hx : 0 ≤ x) (hx2 : x ≤ 10) (hy : 0 ≤ y) (hy2 : y < H) (hrow : ∀ r ∈ sh, r.length = H ∧ ∀ z ∈ r, 0 ≤ z ∧ z < 1024) :
    Calls Try.prog 26 #[.slice a n c, .int .i64 x, .int .i64 y] w fun e w' => e = .returned (.int .i64 (lookTo sh x y n)) ∧ Below w.heap.size w w' := by
  have Hs := Lib.hid hs
  have Hr := Lib.hid hr
  have Hrow := Lib.hid hrow
  have hcap := hs.cap
  have hbig := hs.big
  clear hs hr hrow
  go_enter Try.func26, Try.ntmps26
  go_wp2
  go_loopg [6, 11] n (fun g m i wr => ∃ k : Nat, k ≤ n ∧ n - k ≤ g ∧ i = .int .i64 k ∧ m = .int .i64 (lookTo sh x y k) ∧ Aside (Below w.heap.size w wr))
  case atStart => exact ⟨0, by omega, by omega, rfl, rfl, Below.refl _ _⟩
  case round =>
    obtain ⟨k, hk, hg, rfl, rfl, hA⟩ := hrel
    by_cases hlt : k < n
    · obtain ⟨u, hu⟩ := Hs.out.get hlt
      obtain ⟨b, o, rfl, hbs, hcell⟩ := (Hs.out.below hA.out).mem k _ hu
      obtain ⟨r, ar, cr, hri, rfl, hsr⟩ := Hr.out.get hu
      obtain ⟨hrl, hrb⟩ := Hrow.out r (List.mem_of_getElem? hri)
      obtain ⟨z, hz⟩ : ∃ z, r[y.toNat]? = some z := ⟨_, List.getElem?_eq_getElem (by omega)⟩
      obtain ⟨b', o', rfl, hbs', hcell'⟩ := (hsr.below hA.out).mem y.toNat _ (ints_get hz)
      have hzb := hrb z (List.mem_of_getElem? hz)
      have hL := lookTo_lt sh x y k
      have h3 : 2 ^ k ≤ 2 ^ 2 := Nat.pow_le_pow_right (by omega) (by omega)
      have hLs : lookTo sh x y (k + 1) = lookTo sh x y k ||| bitAt z x * 2 ^ k := by
        simp only [lookTo, hri]
        rw [List.getD_eq_getElem?_getD, hz]; rfl
      have e := look_val z x k (lookTo sh x y k) hzb.1 hzb.2 hx hx2 (by omega) (by omega)
      rw [← hLs] at e
      have hyl : y < (r.length : Int) := by omega
      have hzx := hzb.1
      have hrcap := hsr.cap
      have hrbig := hsr.big
      generalize lookTo sh x y k = L at *
      generalize hL' : lookTo sh x y (k + 1) = L' at *
      have HL' := Lib.hid hL'
      clear hL'
      have He := Lib.hid e
      clear e hLs hL h3 hz hri hrb hzb hsr hrl
      generalize r.length = rl at *
      go_wp2_with fail
      go_roundg (n - (k + 1))
      case measure => omega
      case rel => exact ⟨k + 1, by omega, by omega, by go_num, by rw [HL'.out, ← He.out], hA.out⟩
    · have hkn : k = n := by omega
      subst hkn
      go_wp2
      go_ret
      exact ⟨rfl, hA.out⟩
end Go.Proofs.X
