/-
  A part of a claim: lemmas and contracts of functions of the program; each theorem says what is proved, and its conditions.
-/
import Derived.Test.YthgdekcbagbbkaaLib2
import Derived.Test.YthgdekcbagbbkaaGen
open Go Go.RowKit
namespace Go.Proofs.X
theorem info_int : (Try.prog.info? 3).map (fun i => (i.zero, i.size, i.bytes)) = some (some (.int .i64 0), 1, 8) := by kernel_rfl
theorem Clone_int (a : Option Addr) (n c : Nat) (xs : List Value) (w : World) (hl : xs.length = n * 1) (hn : (n : Int) ≤ 1000000) (hnil : a = none → n = 0 ∧ c = 0) (h1 : ∀ u ∈ xs, u.oneCell' = true)
    (hm : ∀ (j : Nat) (u : Value), xs[j]? = some u → ∃ b o, a = some ⟨b, o, none⟩ ∧ b < w.heap.size ∧ w.cell? ⟨b, o + j, none⟩ = some u) (hsp : ∀ x, a = some x → x.spot = none) :
    Calls Try.prog 30 #[.slice a n c] w fun e w' => ∃ v, e = .returned v ∧ w'.ownsRow w.heap.size 3 1 v n xs ∧ Below w.heap.size w w' := by
  have H := Lib.hid hm
  have Hl := Lib.hid hl
  have H1 := Lib.hid h1
  have Hs := Lib.hid hsp
  have Hn := Lib.hid hn
  clear hm hl h1 hsp hn
  obtain ⟨i0, hi, hz0, hz1, hz2⟩ := info_parts info_int
  have q22 : ∀ (w : World) (a : Option Addr) (n c n' c' : Nat), (binOp .eql 23 (.slice a n c) (.slice none n' c')).run Try.prog w = .ok (.bool a.isNone) w := fun w a n c n' c' => Lib.run_eql_slice_nil w _ _ a n c n' c' Try.underlying23
  cases a with
  | none =>
    obtain ⟨rfl, rfl⟩ := hnil rfl
    have hx : xs = [] := by simpa using Hl.out
    subst hx
    go_enter Try.func30, Try.ntmps30
    go_wp2
    go_ret
    exact ⟨_, rfl, World.ownsRow_nil _ _ _ _, Below.refl _ _⟩
  | some ad =>
    clear hnil
    go_enter Try.func30, Try.ntmps30
    go_wp2_with (at_builtin; refine append_sl rfl _ _ 23 rfl w.heap.size 3 i0 (.int .i64 0) 1 8 Try.underlying23 hi hz0 hz1 hz2 rfl (by omega) _ _ _ rfl (World.ownsRow_made w #[] 0 (Nat.le_refl _) (Nat.zero_le _) (by simp)) (some ad) n c xs rfl ?qc1 ?qc2 ?qc3 ?qc4 ?qc5 ?qc6 ?qc7 ?qc8 ?_)
    case qc1 => exact Hl.out
    case qc2 => simp
    case qc3 =>
      intro j u hj
      obtain ⟨b, o, he, hb, hc⟩ := H.out j u hj
      exact ⟨b, o, he, cell_later hc (below_alloc _ _)⟩
    case qc4 => exact Hs.out
    case qc5 => exact H1.out
    case qc6 => have := Hn.out; unfold maxLen; omega
    case qc7 => have := Hn.out; omega
    case qc8 => simp
    intro v' w1 hown hgrow
    go_wp2
    go_ret
    exact ⟨v', rfl, by simpa using hown, ((Below.refl _ w).alloc (Nat.le_refl _) _).grown hgrow (by simp) (by intro k hk; simp [Value.ownBlock] at hk; omega)⟩

end Go.Proofs.X
