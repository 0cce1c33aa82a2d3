/-
  A part of a claim: lemmas and contracts of functions of the program; each theorem says what is proved, and its conditions.
-/
import Derived.Test.YthgdekcbagbbkaaGlue5
import Derived.Test.YthgdekcbagbbkaaLib3
open Go Go.RowKit
namespace Go.Proofs.X
theorem glue_Box (s : Int) (a : Option Addr) (n c : Nat) (noz : List Int) (a2 : Option Addr) (n2 c2 : Nat) (st : List (Int × Int × Int)) (b : Int) (w : World) (hp : okPlan s noz) (hs : Sl1 w a n c (ints noz)) (hsp : ∀ x, a = some x → x.spot = none) (hst : okState n st) (h2 : SlK 3 w a2 n2 c2 (causeRows st)) (hb : 0 ≤ b) (hb2 : b ≤ 1000) :
    Calls Try.prog 7 #[.agg #[.int .i64 s, .slice a n c], .slice a2 n2 c2, .int .i64 b] w fun e w' => ∃ v, e = .returned (.tuple #[v, .int .i64 0]) ∧ w'.ownsRow w.heap.size 3 1 v n (ints (boxF s noz st b)) ∧ Below w.heap.size w w' := by
  have Hp := Lib.hid hp
  have Hs := Lib.hid hs
  have H2 := Lib.hid h2
  have Ht := Lib.hid hst
  have Hsp := Lib.hid hsp
  have m1 := fun a w h => glue_isBox a 1 1 [b] w h
  rw [any_outside_false (by intro x hx; simp at hx; omega)] at m1
  have M1 := Lib.hid m1
  clear hp hs h2 hst m1 hsp
  go_enter Try.func7, Try.ntmps7
  go_wp2_with fail
  have b0 := below_alloc2 w (.cells #[.int .i64 s, .slice a n c] 28) (.cells #[.slice a2 n2 c2] 44)
  refine (glue_openState s a n c noz _ 1 1 [.slice a2 n2 c2] _ Hp.out (Hs.out.below b0) (sl1_lit1 _ _ _ _ (by simp)) ?_).mono ?_
  · intro v hv
    simp at hv
    subst hv
    exact ⟨a2, n2, c2, st, rfl, H2.out.below b0, Ht.out⟩
  rintro e w1 ⟨rfl, hw1⟩
  have B1 := Lib.hid (below_tr b0 hw1)
  clear hw1 b0
  go_wp2_with fail
  refine (M1.out _ _ (sl1_lit1 _ _ _ _ (by simp))).mono ?_
  rintro e w2 ⟨rfl, hw2⟩
  have y0 : w2.cell? ⟨w1.heap.size, 0, none⟩ = some (.int .i64 s) := cell_later (by simp [go_sem]) hw2
  have y1 : w2.cell? ⟨w1.heap.size, 1, none⟩ = some (.slice a n c) := cell_later (by simp [go_sem]) hw2
  have B2 := Lib.hid (below_tr B1.out (below_tr (below_alloc2 _ _ _) hw2))
  clear hw2
  go_wp2_with fail
  refine (glue_box s a n c noz a2 n2 c2 st b _ Hp.out (Hs.out.below B2.out) Hsp.out Ht.out.2.1 (H2.out.below B2.out) hb).mono ?_
  rintro e w3 ⟨v, rfl, hown, hw3⟩
  have B3 := Lib.hid (below_tr B2.out hw3)
  have Ho := Lib.hid (own_mono hown B2.out.size)
  clear hown hw3
  go_wp2
  go_ret2
  exact ⟨v, rfl, Ho.out, B3.out⟩
def c3 (i : Nat) (k : Nat) (f : List Int) : List (Int × Int × Int) := f.map fun x => ((i : Int), (k : Int), x)
def c2 (i : Nat) (k : Nat) (f : List Int) : List (Int × Int × Int) := (List.range k).flatMap fun j => c3 i (j + 1) f
def c1 (i : Nat) (f : List Int) : List (Int × Int × Int) := (List.range i).flatMap fun j => c2 j 4 f
theorem c1_succ (i f) : c1 (i + 1) f = c1 i f ++ c2 i 4 f := by simp [c1, List.range_succ]
theorem c2_succ (i k f) : c2 i (k + 1) f = c2 i k f ++ c3 i (k + 1) f := by simp [c2, List.range_succ]
theorem c2_len (i k f) : (c2 i k f).length = k * f.length := by
  induction k with
  | zero => simp [c2]
  | succ k ih => rw [c2_succ, List.length_append, ih]; simp [c3]; rw [Nat.add_mul]; omega
theorem c3_snoc (i k f x) : c3 i k (f ++ [x]) = c3 i k f ++ [((i : Int), (k : Int), x)] := by simp [c3]
theorem c1_len (i f) : (c1 i f).length = i * 4 * f.length := by
  induction i with
  | zero => simp [c1]
  | succ i ih => rw [c1_succ, List.length_append, ih]; simp [c2, c3, List.range_succ]; rw [Nat.add_mul, Nat.add_mul]; omega
theorem info_cause : (Try.prog.info? 43).map (fun i => (i.zero, i.size, i.bytes)) = some (some (.agg #[.int .i64 0, .int .i64 0, .int .i64 0]), 3, 24) := by kernel_rfl
theorem glue_causes (s : Int) (a : Option Addr) (n c : Nat) (a2 : Option Addr) (n2 c2' : Nat) (f : List Int) (w : World) (hn : (n : Int) ≤ 6) (hf : Sl1 w a2 n2 c2' (ints f)) (hn2 : (n2 : Int) ≤ 5) :
    Calls Try.prog 74 #[.agg #[.int .i64 s, .slice a n c], .slice a2 n2 c2'] w fun e w' => ∃ v m, e = .returned v ∧ w'.ownsRow w.heap.size 43 3 v m (causeRows (c1 n f)).flatten ∧ m = (c1 n f).length ∧ Below w.heap.size w w' := by
  have hlen : f.length = n2 := by have := hf.len; simpa [ints] using this
  have Hf := Lib.hid hf
  have Hlen := Lib.hid hlen
  clear hf hlen
  obtain ⟨i0, hi, hz0, hz1, hz2⟩ := info_parts info_cause
  go_enter Try.func74, Try.ntmps74
  go_wp2
  have h0 := below_alloc w (.cells #[.int .i64 s, .slice a n c] 61)
  generalize w.alloc (.cells #[.int .i64 s, .slice a n c] 61) = W0 at *
  go_loopg [4, 13] n (fun g o i wr => ∃ k m : Nat, k ≤ n ∧ n - k ≤ g ∧ i = .int .i64 k ∧ Aside (wr.ownsRow w.heap.size 43 3 o m (causeRows (c1 k f)).flatten ∧ m = (c1 k f).length ∧ Below w.heap.size w wr))
  case atStart => exact ⟨0, 0, by omega, by omega, rfl, World.ownsRow_nil _ _ _ _, by simp [c1], h0⟩
  case round =>
    obtain ⟨k, m, hk, hg, rfl, hA⟩ := hrel
    by_cases hlt : k < n
    · go_wp2
      go_loopg [4, 6] 4 (fun g o i wr => ∃ kd m : Nat, kd ≤ 4 ∧ 4 - kd ≤ g ∧ i = .int .i64 (kd + 1) ∧ Aside (wr.ownsRow w.heap.size 43 3 o m (causeRows (c1 k f ++ c2 k kd f)).flatten ∧ m = (c1 k f ++ c2 k kd f).length ∧ Below w.heap.size w wr))
      case atStart => exact ⟨0, m, by omega, by omega, rfl, show _ by simpa [Aside, c2] using hA⟩
      case round =>
        obtain ⟨kd, m, hkd, hg2, rfl, hB⟩ := hrel
        by_cases hlt2 : kd < 4
        · have hi4 : (kd : Int) + 1 ≤ 4 := by omega
          have H2 := Lib.hid hlt2
          have H3 := Lib.hid hkd
          have H4 := Lib.hid hg2
          clear hlt2 hkd hg2
          go_wp2
          go_loopg [4, 22] n2 (fun g o i wr => ∃ j m : Nat, j ≤ n2 ∧ n2 - j ≤ g ∧ i = .int .i64 j ∧ Aside (wr.ownsRow w.heap.size 43 3 o m (causeRows (c1 k f ++ c2 k kd f ++ c3 k (kd + 1) (f.take j))).flatten ∧ m = (c1 k f ++ c2 k kd f ++ c3 k (kd + 1) (f.take j)).length ∧ Below w.heap.size w wr))
          case atStart => exact ⟨0, m, by omega, by omega, rfl, show _ by simpa [Aside, c3] using hB⟩
          case round =>
            obtain ⟨j, m, hj, hg3, rfl, hC⟩ := hrel
            by_cases hlt3 : j < n2
            · obtain ⟨x, hx⟩ : ∃ x, f[j]? = some x := ⟨_, List.getElem?_eq_getElem (by rw [Hlen.out]; exact hlt3)⟩
              obtain ⟨b, o, rfl, hbs, hcell⟩ := (Hf.out.below hC.out.2.2).mem j _ (ints_get hx)
              have hm : (m : Int) ≤ 1000 := by
                have h1 := hC.out.2.1
                have h2 := c1_len k f
                have h3 : k * 4 * f.length ≤ 6 * 4 * 5 := Nat.mul_le_mul (by omega) (by have := Hlen.out; omega)
                have h4 : (c2 k kd f).length ≤ 4 * 5 := by
                  have := c2_len k kd f
                  rw [this]
                  exact Nat.mul_le_mul H3.out (by have := Hlen.out; omega)
                simp [c3] at h1
                have := Hlen.out
                omega
              have Hx := Lib.hid hx
              clear hx
              go_wp2_with (at_builtin; refine append_lit rfl _ _ 44 rfl w.heap.size 43 i0 _ 3 24 Try.underlying44 hi hz0 hz1 hz2 rfl (by omega) _ _ _ rfl hC.out.1 [.int .i64 k, .int .i64 (kd + 1), .int .i64 x] 1 _ rfl rfl rfl (by simp [Value.oneCell']) (by omega) (by omega) hC.out.2.2.size ?_; intro v' w' ho hg' hb')
              go_roundg (n2 - (j + 1))
              case measure => omega
              case rel =>
                refine ⟨j + 1, m + 1, by omega, by omega, by go_num, ?_, ?_, ?_⟩
                · rw [take_snoc' Hx.out, c3_snoc, ← List.append_assoc]
                  simpa [causeRows, causeRow] using ho
                · rw [take_snoc' Hx.out, c3_snoc, ← List.append_assoc, List.length_append, ← hC.out.2.1]; rfl
                · exact hC.out.2.2.trans hb'
            · go_wp2
              have hlt2 := H2.out
              have hg2 := H4.out
              go_roundg (4 - (kd + 1))
              case measure => omega
              case rel =>
                have hl : f.take j = f := List.take_of_length_le (by have := Hlen.out; omega)
                rw [hl] at hC
                exact ⟨kd + 1, m, by omega, by omega, by go_num, by rw [c2_succ, ← List.append_assoc]; exact hC.out⟩
        · have hi4 : 4 < (kd : Int) + 1 := by omega
          have hk4 : kd = 4 := by omega
          subst hk4
          go_wp2
          go_roundg (n - (k + 1))
          case measure => omega
          case rel =>
            exact ⟨k + 1, m, by omega, by omega, by go_num, by rw [c1_succ]; exact hB.out⟩
    · have hkn : k = n := by omega
      subst hkn
      go_wp2
      go_ret
      exact ⟨_, m, rfl, hA.out⟩
end Go.Proofs.X
