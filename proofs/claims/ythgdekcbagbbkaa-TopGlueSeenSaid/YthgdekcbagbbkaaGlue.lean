/-
  A part of a claim: lemmas and contracts of functions of the program; each theorem says what is proved, and its conditions.
-/
import Derived.Test.YthgdekcbagbbkaaGen
open Go Go.RowKit
namespace Go.Proofs.X
theorem glue_isBox (a : Option Addr) (n c : Nat) (l : List Int) (w : World) (h : Sl1 w a n c (ints l)) :
    Calls Try.prog 17 #[.slice a n c] w (Ends (!(l.any (outside 0 1000))) w) := by
  have H := Lib.hid h
  clear h
  go_enter Try.func17, Try.ntmps17
  go_wp2_with fail
  refine (glue_within 0 1000 a n c l _ H.out).mono ?_
  rintro e w1 ⟨rfl, hw⟩
  go_wp2
  go_ret
  exact ⟨by simp, hw⟩
theorem glue_isNozzle (s : Int) (a : Option Addr) (n c : Nat) (x : Int) (w : World) (hn : (n : Int) ≤ 6) :
    Calls Try.prog 64 #[.agg #[.int .i64 s, .slice a n c], .int .i64 x] w (Ends (!(outside 0 (n - 1) x)) w) := by
  go_enter Try.func64, Try.ntmps64
  go_wp2_with fail
  refine (glue_within 0 _ _ _ _ [x] _ (sl1_lit1 _ _ _ _ (by simp))).mono ?_
  rintro e w1 ⟨rfl, hw⟩
  go_wp2
  go_ret
  exact ⟨by simp, below_tr (below_alloc2 _ _ _) hw⟩
/-- a valid cause -/
def okCause (n : Nat) (c : Int × Int × Int) : Prop := 0 ≤ c.1 ∧ c.1 < n ∧ 1 ≤ c.2.1 ∧ c.2.1 ≤ 4 ∧ 0 ≤ c.2.2 ∧ c.2.2 ≤ 1000
def causeRow (c : Int × Int × Int) : List Value := [.int .i64 c.1, .int .i64 c.2.1, .int .i64 c.2.2]
theorem glue_isCause (s : Int) (a : Option Addr) (n c : Nat) (x : Int × Int × Int) (w : World) (hn : (n : Int) ≤ 6) (hx : okCause n x) :
    Calls Try.prog 43 #[.agg #[.int .i64 s, .slice a n c], .agg (causeRow x).toArray] w (Ends true w) := by
  have H := Lib.hid hx
  clear hx
  unfold causeRow
  obtain ⟨x1, x2, x3⟩ := x
  have e1 : (!outside 0 (↑n - 1) x1) = true := by have := H.out; simp [okCause, outside] at *; omega
  have e2 : (!([x2].any (outside 1 4))) = true := by have := H.out; simp [okCause, outside] at *; omega
  have e3 : (!([x3].any (outside 0 1000))) = true := by have := H.out; simp [okCause, outside] at *; omega
  have m1 := fun w => glue_isNozzle s a n c x1 w hn
  have m2 := fun a w h => glue_within 1 4 a 1 1 [x2] w h
  have m3 := fun a w h => glue_isBox a 1 1 [x3] w h
  rw [e1] at m1
  rw [e2] at m2
  rw [e3] at m3
  clear e1 e2 e3
  have M1 := Lib.hid m1
  have M2 := Lib.hid m2
  have M3 := Lib.hid m3
  clear m1 m2 m3
  dsimp only
  go_enter Try.func43, Try.ntmps43
  go_wp2_with fail
  refine (M1.out _).mono ?_
  rintro e w1 ⟨rfl, hw1⟩
  have c1 : w1.cell? ⟨w.heap.size + 1, 1, none⟩ = some (.int .i64 x2) := cell_later (by simp [go_sem]) hw1
  have c2 : w1.cell? ⟨w.heap.size + 1, 2, none⟩ = some (.int .i64 x3) := cell_later (by simp [go_sem]) hw1
  go_wp2_with fail
  refine (M2.out _ _ (sl1_lit1 _ _ _ _ (by simp))).mono ?_
  rintro e w2 ⟨rfl, hw2⟩
  have b2 := below_tr (below_alloc _ _) hw2
  replace c2 := cell_later c2 b2
  clear c1
  go_wp2_with fail
  refine (M3.out _ _ (sl1_lit1 _ _ _ _ (by simp))).mono ?_
  rintro e w3 ⟨rfl, hw3⟩
  have b3 := below_tr (below_alloc _ _) hw3
  go_wp2
  go_ret
  exact ⟨by simp, below_tr (below_alloc2 _ _ _) (below_tr hw1 (below_tr b2 b3))⟩
theorem glue_check1 (s : Int) (a : Option Addr) (n c : Nat) (x : Int × Int × Int) (b : Nat) (w : World) (hn : (n : Int) ≤ 6) (hx : okCause n x) (h0 : w.cell? ⟨b, 0, none⟩ = some (.int .i64 s)) (h1 : w.cell? ⟨b, 1, none⟩ = some (.slice a n c)) :
    Calls Try.prog 42 #[.agg (causeRow x).toArray, .pointer (some ⟨b, 0, none⟩)] w (Ends false w) := by
  have M := fun w => glue_isCause s a n c x w hn hx
  unfold causeRow at *
  obtain ⟨x1, x2, x3⟩ := x
  have M1 := Lib.hid M
  have hlt := cell_lt h0
  clear M hx
  go_enter Try.func42, Try.ntmps42
  go_wp2_with fail
  refine (M1.out _).mono ?_
  rintro e w1 ⟨rfl, hw1⟩
  go_wp2
  go_ret
  exact ⟨by simp, below_tr (below_alloc _ _) hw1⟩
theorem eg_glue_check1 : ∀ args w, (callFunc 42 args).run Try.prog w = .ok (.enter 42 args) w := enters_of Try.func42 (by kernel_rfl) rfl

def causeRows (st : List (Int × Int × Int)) : List (List Value) := st.map causeRow
/-- a valid state -/
def okState (n : Nat) (st : List (Int × Int × Int)) : Prop := st.length ≤ 2 ∧ (∀ x ∈ st, okCause n x) ∧ ∀ x y, st = [x, y] → x.1 < y.1
theorem glue_check (s : Int) (a : Option Addr) (n c : Nat) (a2 : Option Addr) (n2 c2 : Nat) (st : List (Int × Int × Int)) (w : World) (hn : (n : Int) ≤ 6) (hst : okState n st) (hs : SlK 3 w a2 n2 c2 (causeRows st)) :
    Calls Try.prog 28 #[.agg #[.int .i64 s, .slice a n c], .slice a2 n2 c2] w fun e w' => e = .returned (.int .i64 0) ∧ Below w.heap.size w w' := by
  have hn2 : (n2 : Int) ≤ 2 := by have := hst.1; have := hs.len; simp [causeRows] at this; omega
  have H := Lib.hid hst
  have Hs := Lib.hid hs
  clear hst hs
  go_enter Try.func28, Try.ntmps28
  go_wp2_with fail
  refine (ContainsFunc_cause 42 _ a2 n2 c2 (causeRows st) (st.map fun _ => false) _ (Hs.out.below (below_alloc _ _)) eg_glue_check1 ?_).mono ?_
  · rw [show aggs (causeRows st) = st.map fun x => .agg (causeRow x).toArray by simp [aggs, causeRows]]
    refine Answers.of_map st fun x w1 hx hw => ?_
    exact glue_check1 s a n c x w.heap.size w1 hn (H.out.2.1 x hx) (cell_later (by simp [go_sem]) hw) (cell_later (by simp [go_sem]) hw)
  rintro e w1 ⟨rfl, hw1⟩
  have b1 := below_tr (below_alloc w (.cells #[.int .i64 s, .slice a n c] 61)) hw1
  have Hs1 := Lib.hid (Hs.out.below b1)
  rw [show (st.map fun _ => false).any id = false by simp]
  have B1 := Lib.hid b1
  clear b1 hw1 Hs
  go_wp2
  go_loopg [6] n2 (fun g i wr => ∃ k : Nat, 1 ≤ k ∧ (k ≤ n2 ∨ k = 1) ∧ n2 - k ≤ g ∧ i = .int .i64 k ∧ Aside (Below w.heap.size w wr ∧ SlK 3 wr a2 n2 c2 (causeRows st)))
  case atStart => exact ⟨1, by omega, by omega, by omega, rfl, B1.out, Hs1.out⟩
  case round =>
    obtain ⟨k, hk1, hk2, hg, rfl, hb⟩ := hrel
    by_cases hlt : k < n2
    · obtain rfl : k = 1 := by omega
      obtain rfl : n2 = 2 := by omega
      have hlen := Hs1.out.len
      simp only [causeRows, List.length_map] at hlen
      obtain ⟨x, y, rfl⟩ : ∃ x y, st = [x, y] := by match st, hlen with | [x, y], _ => exact ⟨x, y, rfl⟩
      have hxy := H.out.2.2 x y rfl
      obtain ⟨b, o, rfl, hbs, _, hx⟩ := hb.out.2.mem 0 (causeRow x) rfl
      obtain ⟨b', o', he, _, _, hy⟩ := hb.out.2.mem 1 (causeRow y) rfl
      cases he
      have h0 : wr.cell? ⟨b, o, none⟩ = some (.int .i64 x.1) := by simpa using hx 0 _ rfl
      have h1 : wr.cell? ⟨b, o + 3, none⟩ = some (.int .i64 y.1) := by simpa using hy 0 _ rfl
      clear hx hy
      go_wp2_with fail
      go_quiet (fail)
      go_wp2
      go_roundg 0
      case measure => omega
      case rel => exact ⟨2, by omega, by omega, by omega, rfl, below_tr hb.out.1 (below_dr _ _), hb.out.2.below (below_dr _ _)⟩
    · go_wp2
      go_ret
      exact ⟨by simp, hb.out.1⟩
end Go.Proofs.X
