/-
  A part of a claim: lemmas and contracts of functions of the program; each theorem says what is proved, and its conditions.
-/
import Derived.Test.YthgdekcbagbbkaaSorts
import Derived.Test.YthgdekcbagbbkaaGen
import Derived.Test.YthgdekcbagbbkaaClone
import Derived.Test.YthgdekcbagbbkaaSplit
import Derived.Test.YthgdekcbagbbkaaPrint1
open Go Go.RowKit Go.Shelf
namespace Go.Proofs.X
theorem Index_int (a : Option Addr) (n c : Nat) (zs : List Int) (x : Int) (w : World) (h : Sl1 w a n c (ints zs)) :
    Calls Try.prog 49 #[.slice a n c, .int .i64 x] w fun e w' => e = .returned (.int .i64 (firstTrue (zs.map fun y => decide (x = y)))) ∧ w' = w := by
  have hl : zs.length = n := by have := h.len; simpa [ints] using this
  have hcap := h.cap
  have hbig := h.big
  have H := Lib.hid h
  have HL := Lib.hid hl
  clear h hl
  go_enter Try.func49, Try.ntmps49
  go_wp2
  go_loopg [5, 8] n (fun g _ j wr => ∃ k : Nat, k ≤ n ∧ n - k ≤ g ∧ j = .int .i64 k ∧ wr = w ∧ Aside (noneTrue (zs.map fun y => decide (x = y)) k))
  case atStart => exact ⟨0, Nat.zero_le _, Nat.le_refl _, rfl, rfl, noneTrue_zero _⟩
  case round =>
    obtain ⟨k, hk, hg, rfl, rfl, hn⟩ := hrel
    by_cases hlt : k < n
    · obtain ⟨y, hy⟩ : ∃ y, zs[k]? = some y := ⟨zs[k]'(by rw [HL.out]; exact hlt), List.getElem?_eq_getElem _⟩
      obtain ⟨b, o, rfl, hbs, hcell⟩ := H.out.mem k _ (ints_get hy)
      have HY := Lib.hid hy
      clear hy
      by_cases hxy : x = y
      · go_wp2
        go_ret
        exact ⟨by rw [firstTrue_hit _ k (by simp [HY.out, hxy]) hn.out]; rfl, rfl⟩
      · go_wp2
        go_roundg (n - (k+1))
        case measure => omega
        case rel => exact ⟨k+1, by omega, by omega, by go_num, rfl, noneTrue_succ hn.out (by simp [HY.out, hxy])⟩
    · go_wp2
      go_ret
      have hk' : k = n := by omega
      subst hk'
      exact ⟨by rw [firstTrue_miss _ (by simpa [HL.out] using hn.out)]; rfl, rfl⟩
theorem Contains_int (a : Option Addr) (n c : Nat) (zs : List Int) (x : Int) (w : World) (h : Sl1 w a n c (ints zs)) :
    Calls Try.prog 36 #[.slice a n c, .int .i64 x] w fun e w' => e = .returned (.bool (decide (x ∈ zs))) ∧ w' = w := by
  have e : decide (x ∈ zs) = decide (0 ≤ firstTrue (zs.map fun y => decide (x = y))) := by
    rw [firstTrue_any]
    apply Bool.eq_iff_iff.2
    simp
  rw [e]
  have H := Index_int a n c zs x w h
  clear h e
  generalize firstTrue (zs.map fun y => decide (x = y)) = i at *
  go_enter Try.func36, Try.ntmps36
  go_wp2_with fail
  refine H.mono ?_
  clear H
  rintro e w1 ⟨rfl, rfl⟩
  go_wp2
  go_ret
  exact ⟨rfl, rfl⟩
/-- print.use -/
def useF (jobs : List (List Int)) (ink : Int) : Int := if firstTrue (jobs.map fun j => decide (ink ∈ j)) < 0 then jobs.length else firstTrue (jobs.map fun j => decide (ink ∈ j))
theorem print_use1 (a : Option Addr) (n c : Nat) (zs : List Int) (x : Int) (p : Addr) (w : World) (h : Sl1 w a n c (ints zs)) (hp : w.cell? p = some (.int .i64 x)) :
    Calls Try.prog 70 #[.slice a n c, .pointer (some p)] w (Ends (decide (x ∈ zs)) w) := by
  have H := Lib.hid h
  clear h
  go_enter Try.func70, Try.ntmps70
  go_wp2_with fail
  refine (Contains_int a n c zs x _ H.out).mono ?_
  rintro e w1 ⟨rfl, rfl⟩
  generalize decide (x ∈ zs) = b at *
  go_wp2
  go_ret
  exact ⟨rfl, Below.refl _ _⟩
theorem eg_use1 : ∀ args w, (callFunc 70 args).run Try.prog w = .ok (.enter 70 args) w := enters_of Try.func70 (by kernel_rfl) rfl

theorem print_use (a : Option Addr) (n c : Nat) (vs : List Value) (jobs : List (List Int)) (x : Int) (w : World) (hs : Sl1 w a n c vs) (hr : Rows2 w vs jobs) :
    Calls Try.prog 53 #[.slice a n c, .int .i64 x] w fun e w' => e = .returned (.int .i64 (useF jobs x)) ∧ Below w.heap.size w w' := by
  have hn : n = jobs.length := by rw [← hr.1, hs.len]
  have hcap := hs.cap
  have hbig := hs.big
  have HU : useF jobs x = (if firstTrue (jobs.map fun j => decide (x ∈ j)) < 0 then (n : Int) else firstTrue (jobs.map fun j => decide (x ∈ j))) := by rw [hn]; rfl
  rw [HU]
  obtain ⟨i, hi⟩ : ∃ i, firstTrue (jobs.map fun j => decide (x ∈ j)) = i := ⟨_, rfl⟩
  rw [hi]
  have Hs := Lib.hid hs
  have Hr := Lib.hid hr
  have Hn := Lib.hid hn
  have Hi := Lib.hid hi
  clear hs hr hn HU hi
  go_enter Try.func53, Try.ntmps53
  go_wp2_with fail
  have hb := below_alloc w (.cells #[.int .i64 x] 3)
  refine (IndexFunc_ints 70 _ a n c vs (jobs.map fun j => decide (x ∈ j)) _ (Hs.out.below hb) eg_use1 ⟨by simp [Hr.out.1], fun i v b w1 hv hbb hw => ?_⟩).mono ?_
  · obtain ⟨r, a1, c1, h1, rfl, h2⟩ := Hr.out.get hv
    have : b = decide (x ∈ r) := by simpa [h1, eq_comm] using hbb
    subst this
    exact print_use1 a1 _ c1 r x _ w1 (h2.below (below_tr hb hw)) (cell_later (by simp [go_sem]) hw)
  · rintro e w1 ⟨rfl, hw⟩
    have hb2 := below_tr hb hw
    rw [Hi.out]
    have HB := Lib.hid hb2
    clear hb hw hb2
    by_cases hi : i < 0
    · go_wp2
      go_ret
      exact ⟨by simp [hi], HB.out⟩
    · go_wp2
      go_ret
      exact ⟨by simp [show ¬ i < 0 by omega], HB.out⟩
end Go.Proofs.X
