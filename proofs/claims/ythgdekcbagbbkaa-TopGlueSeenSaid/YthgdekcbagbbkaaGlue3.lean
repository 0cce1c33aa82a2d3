/-
  A part of a claim: lemmas and contracts of functions of the program; each theorem says what is proved, and its conditions.
-/
import Derived.Test.YthgdekcbagbbkaaGlue2
open Go Go.RowKit
namespace Go.Proofs.X
theorem glue_openState (s : Int) (a : Option Addr) (n c : Nat) (noz : List Int) (a2 : Option Addr) (n2 c2 : Nat) (vs : List Value) (w : World) (hp : okPlan s noz) (hs : Sl1 w a n c (ints noz)) (hv : Sl1 w a2 n2 c2 vs)
    (hst : ∀ v ∈ vs, ∃ ad m k st, v = .slice ad m k ∧ SlK 3 w ad m k (causeRows st) ∧ okState n st) :
    Calls Try.prog 16 #[.agg #[.int .i64 s, .slice a n c], .slice a2 n2 c2] w fun e w' => e = .returned (.tuple #[.agg #[.int .i64 s, .slice a n c], .int .i64 0]) ∧ Below w.heap.size w w' := by
  have hn : (n : Int) ≤ 6 := by have := hp.n2; have := hs.len; simp [ints] at this; omega
  have hc2 := hv.cap
  have hb2 := hv.big
  have Hp := Lib.hid hp
  have Hs := Lib.hid hs
  have Hv := Lib.hid hv
  have Ht := Lib.hid hst
  clear hp hs hv hst
  go_enter Try.func16, Try.ntmps16
  go_wp2_with fail
  have b0 := below_alloc2 w (.cells #[.int .i64 s, .slice a n c] 28) (.cells #[.int .i64 0, .slice none 0 0] 61)
  refine (glue_open s a n c noz _ Hp.out (Hs.out.below b0)).mono ?_
  rintro e w1 ⟨rfl, hw1⟩
  have d0 : w1.cell? ⟨w.heap.size + 1, 0, none⟩ = some (.int .i64 0) := cell_later (by simp [go_sem]) hw1
  have d1 : w1.cell? ⟨w.heap.size + 1, 1, none⟩ = some (.slice none 0 0) := cell_later (by simp [go_sem]) hw1
  have f0 : w1.frozen? ⟨w.heap.size + 1, 0, none⟩ = false := frozen_later (by simp [go_sem]) (by simp) hw1
  have f1 : w1.frozen? ⟨w.heap.size + 1, 1, none⟩ = false := frozen_later (by simp [go_sem]) (by simp) hw1
  have z1 : w.heap.size + 1 < w1.heap.size := by have := hw1.size; simp at this; omega
  have B1 := Lib.hid (below_tr b0 hw1)
  clear hw1
  go_wp2
  have ba := below_alloc w1 (.cells #[.int .i64 s, .slice a n c] 61)
  have p0 : (w1.alloc (.cells #[.int .i64 s, .slice a n c] 61)).cell? ⟨w1.heap.size, 0, none⟩ = some (.int .i64 s) := by simp [go_sem]
  have p1 : (w1.alloc (.cells #[.int .i64 s, .slice a n c] 61)).cell? ⟨w1.heap.size, 1, none⟩ = some (.slice a n c) := by simp [go_sem]
  replace d0 := cell_later d0 ba
  replace d1 := cell_later d1 ba
  replace f0 := frozen_later f0 z1 ba
  replace f1 := frozen_later f1 z1 ba
  replace z1 : w.heap.size + 1 < (w1.alloc (.cells #[.int .i64 s, .slice a n c] 61)).heap.size := Nat.lt_of_lt_of_le z1 ba.size
  replace B1 := Lib.hid (below_tr B1.out ba)
  generalize w1.alloc (.cells #[.int .i64 s, .slice a n c] 61) = W0 at *
  clear ba b0
  go_loopg [22] n2 (fun g i wr => ∃ k : Nat, k ≤ n2 ∧ n2 - k ≤ g ∧ i = .int .i64 k ∧ Aside (Below W0.heap.size W0 wr))
  case atStart => exact ⟨0, by omega, by omega, rfl, Below.refl _ _⟩
  case round =>
    obtain ⟨k, hk, hg, rfl, hb⟩ := hrel
    have BB := Lib.hid (below_tr B1.out hb.out)
    replace p0 := cell_later p0 hb.out
    replace p1 := cell_later p1 hb.out
    replace d0 := cell_later d0 hb.out
    replace d1 := cell_later d1 hb.out
    replace f0 := frozen_later f0 z1 hb.out
    replace f1 := frozen_later f1 z1 hb.out
    by_cases hlt : k < n2
    · obtain ⟨y, hy⟩ := Hv.out.get hlt
      obtain ⟨ad, m, c', st, rfl, hsl, hok⟩ := Ht.out y (List.mem_of_getElem? hy)
      obtain ⟨b, o, rfl, hbs, hcell⟩ := (Hv.out.below BB.out).mem k _ hy
      have Hy := Lib.hid hy
      have M := Lib.hid (glue_check s a n c ad m c' st wr hn hok (hsl.below BB.out))
      clear hy hsl hok
      go_wp2_with fail
      refine M.out.mono ?_
      rintro e w2 ⟨rfl, hw2⟩
      go_wp2
      go_roundg (n2 - (k+1))
      case measure => omega
      case rel => exact ⟨k+1, by omega, by omega, by go_num, below_tr hb.out hw2⟩
    · go_wp2
      exact bodyPost_ret (v := .tuple #[.agg #[.int .i64 s, .slice a n c], .int .i64 0]) (by simp [results, Try.results16, go_sem, d0, d1]) rfl ⟨rfl, (BB.out.setCell (by simp) _).setCell (by simp) _⟩
end Go.Proofs.X
