/-
  A part of a claim: lemmas and contracts of functions of the program; each theorem says what is proved, and its conditions.
-/
import Derived.Test.YthgdekcbagbbkaaGlue9
open Go Go.RowKit
namespace Go.Proofs.X
theorem pubSame_true (a : Option Addr) (n c : Nat) (a2 : Option Addr) (n2 c2 : Nat) (l : List Int) (w : World) (h1 : Sl1 w a n c (ints l)) (h2 : Sl1 w a2 n2 c2 (ints l)) :
    Calls Try.prog 21 #[.slice a n c, .slice a2 n2 c2] w (Ends true w) := by
  have hn : n2 = n := by have := h1.len; have := h2.len; omega
  subst hn
  have hc := h1.cap
  have hb := h1.big
  have H1 := Lib.hid h1
  have H2 := Lib.hid h2
  clear h1 h2
  go_enter Try.func21, Try.ntmps21
  go_wp2
  go_loopg [5] n2 (fun g i wr => ∃ k : Nat, k ≤ n2 ∧ n2 - k ≤ g ∧ i = .int .i64 k ∧ Aside (Below w.heap.size w wr))
  case atStart => exact ⟨0, by omega, by omega, rfl, Below.refl _ _⟩
  case round =>
    obtain ⟨k, hk, hg, rfl, hA⟩ := hrel
    by_cases hlt : k < n2
    · obtain ⟨y, hy⟩ := H1.out.get hlt
      obtain ⟨b, o, rfl, hbs, hcell⟩ := (H1.out.below hA.out).mem k _ hy
      obtain ⟨b', o', rfl, hbs', hcell'⟩ := (H2.out.below hA.out).mem k _ hy
      simp only [ints, List.getElem?_map, Option.map_eq_some_iff] at hy
      obtain ⟨x, _, rfl⟩ := hy
      have hk0 : (0 : Int) ≤ k := by omega
      have hk1 : (k : Int) < n2 := by omega
      go_wp2_with fail
      go_quiet (fail)
      go_wp2
      go_roundg (n2 - (k + 1))
      case measure => omega
      case rel => exact ⟨k + 1, by omega, by omega, by go_num, below_tr hA.out (below_dr _ _)⟩
    · go_wp2
      go_ret
      exact ⟨rfl, hA.out⟩

theorem info_int' : (Try.prog.info? 3).map (fun i => (i.zero, i.size, i.bytes)) = some (some (.int .i64 0), 1, 8) := by kernel_rfl
theorem pubInts_spec (a : Option Addr) (n c : Nat) (l : List Int) (w : World) (h : Sl1 w a n c (ints l)) (hsp : ∀ x, a = some x → x.spot = none) (hn : (n : Int) ≤ 100000) :
    Calls Try.prog 5 #[.slice a n c] w fun e w' => ∃ v, e = .returned v ∧ w'.ownsRow w.heap.size 3 1 v n (ints l) ∧ Below w.heap.size w w' := by
  have H := Lib.hid h
  have Hs := Lib.hid hsp
  have Hn := Lib.hid hn
  clear h hsp hn
  obtain ⟨i0, hi, hz0, hz1, hz2⟩ := info_parts info_int'
  go_enter Try.func5, Try.ntmps5
  go_wp2_with (at_builtin; refine append_sl rfl _ _ 23 rfl w.heap.size 3 i0 (.int .i64 0) 1 8 Try.underlying23 hi hz0 hz1 hz2 rfl (by omega) _ _ _ rfl (World.ownsRow_made w #[] 0 (Nat.le_refl _) (Nat.zero_le _) (by simp)) a n c (ints l) rfl ?qc1 ?qc2 ?qc3 ?qc4 ?qc5 ?qc6 ?qc7 ?qc8 ?_)
  case qc1 => have := H.out.len; omega
  case qc2 => exact H.out.nil
  case qc3 =>
    intro j u hj
    obtain ⟨b, o, he, hb, hc⟩ := H.out.mem j u hj
    exact ⟨b, o, he, cell_later hc (below_alloc _ _)⟩
  case qc4 => exact Hs.out
  case qc5 => exact ints_one _
  case qc6 => have := Hn.out; unfold maxLen; omega
  case qc7 => have := Hn.out; omega
  case qc8 => simp
  intro v' w1 hown hgrow
  go_wp2
  go_ret
  exact ⟨v', rfl, by simpa using hown, ((Below.refl _ w).alloc (Nat.le_refl _) _).grown hgrow (by simp) (by intro k hk; simp [Value.ownBlock] at hk; omega)⟩

theorem glue_Explain (s : Int) (a : Option Addr) (n c : Nat) (noz : List Int) (a2 : Option Addr) (c2' : Nat) (x : Int) (w : World) (hp : okPlan s noz) (hs : Sl1 w a n c (ints noz)) (hf : Sl1 w a2 1 c2' (ints [x])) (h1 : 0 ≤ x) (h2 : x ≤ 1000) (hsp : ∀ x, a2 = some x → x.spot = none) :
    Calls Try.prog 20 #[.agg #[.int .i64 s, .slice a n c], .slice a2 1 c2', .slice none 0 0] w fun e w' => ∃ v, ∃ m : Nat, e = .returned (.tuple #[.int .i64 m, v, .int .i64 0]) ∧ m = 1 + (c1 n [x]).length + pairsTo (c1 n [x]) (c1 n [x]).length ∧ Below w.heap.size w w' := by
  have Hp := Lib.hid hp
  have Hs := Lib.hid hs
  have Hf := Lib.hid hf
  have Hsp := Lib.hid hsp
  clear hp hs hf hsp
  go_enter Try.func20, Try.ntmps20
  have h0 := below_alloc w (.cells #[.int .i64 s, .slice a n c] 28)
  go_wp2_with fail
  refine (glue_explained s a n c noz a2 c2' x _ Hp.out (Hs.out.below h0) (Hf.out.below h0) h1 h2 Hsp.out).mono ?_
  rintro e w1 ⟨av, cv, m, xs, rfl, hown, hsl, hm, hw1⟩
  have hm0 : (0 : Int) < (m : Int) := by omega
  have hlen : xs.length = m := by have := hown.1; omega
  have hx : ∃ u, xs[0]? = some u := ⟨xs[0]'(by omega), List.getElem?_eq_getElem _⟩
  obtain ⟨u, hu⟩ := hx
  obtain ⟨a', k', c', rfl⟩ := hsl u (List.mem_of_getElem? hu)
  have hcv : m ≤ cv ∧ cv ≤ 9223372036854775807 := by
    obtain ⟨_, _, he, h5, h6, _⟩ := own_slice hown
    cases he
    exact ⟨h5, h6⟩
  obtain ⟨g, rfl, _, hg, hc⟩ := own_mem hown hu
  have hcv1 := hcv.1
  have hcv2 := hcv.2
  have B1 := Lib.hid (below_tr h0 hw1)
  have Hm := Lib.hid hm
  have hc' : (w1.alloc (.cells #[.int .i64 s, .slice a n c] 61)).cell? ⟨g, 0, none⟩ = some (.slice a' k' c') := cell_later hc (below_alloc _ _)
  clear hw1 h0 hown hsl hm hu hlen hcv hc
  go_wp2_with fail
  have BW := Lib.hid (below_tr B1.out (below_alloc w1 (.cells #[.int .i64 s, .slice a n c] 61)))
  generalize w1.alloc (.cells #[.int .i64 s, .slice a n c] 61) = W at *
  go_quiet (fail)
  go_wp2
  go_ret3
  exact ⟨_, m, rfl, Hm.out, below_tr BW.out (below_dr _ _)⟩
theorem okPlan_pub : okPlan 6 [14, 18] := ⟨by omega, by omega, by simp, by simp, by simp⟩
theorem pubGlue_true (w : World) : Calls Try.prog 9 #[] w (Ends true w) := by
  have e1 : boxF 6 [14, 18] [(0, 2, 0)] 5 = [30, 18] := by decide
  have e2 : 1 + (c1 2 [0]).length + pairsTo (c1 2 [0]) (c1 2 [0]).length = 25 := by decide
  have E1 := Lib.hid e1
  have E2 := Lib.hid e2
  clear e1 e2
  go_enter Try.func9, Try.ntmps9
  go_wp2_with fail
  have hs0 : Sl1 (w.alloc (.cells #[.int .i64 14, .int .i64 18] 3)) (some ⟨w.heap.size, 0, none⟩) 2 2 (ints [14, 18]) := sl1_lit w [.int .i64 14, .int .i64 18] 2 w.heap.size 3 rfl rfl (by omega)
  have hs1 := (hs0.below (below_alloc _ (.cells #[.int .i64 6, .slice (some ⟨w.heap.size, 0, none⟩) 2 2] 28)))
  have Hs1 := Lib.hid hs1
  have hk : SlK 3 (((w.alloc (.cells #[.int .i64 14, .int .i64 18] 3)).alloc (.cells #[.int .i64 6, .slice (some ⟨w.heap.size, 0, none⟩) 2 2] 28)).alloc (.cells #[.int .i64 0, .int .i64 2, .int .i64 0] 43)) (some ⟨w.heap.size + 1 + 1, 0, none⟩) 1 1 (causeRows [(0, 2, 0)]) := slK_lit 3 _ (causeRows [(0, 2, 0)]) 1 _ 43 (by simp) rfl (causeRows_len _) (by omega)
  refine (glue_Box 6 _ 2 2 [14, 18] _ 1 1 [(0, 2, 0)] 5 _ okPlan_pub (hs1.below (below_alloc _ _)) (by simp) ⟨by simp, by simp [okCause], by simp⟩ hk (by omega) (by omega)).mono ?_
  rintro e w1 ⟨v, rfl, hown, hw1⟩
  rw [E1.out] at hown
  obtain ⟨av, cv, rfl, hsl⟩ := own_sl1 hown
  have p0 : w1.cell? ⟨w.heap.size + 1, 0, none⟩ = some (.int .i64 6) := cell_later (by simp [go_sem]) hw1
  have p1 : w1.cell? ⟨w.heap.size + 1, 1, none⟩ = some (.slice (some ⟨w.heap.size, 0, none⟩) 2 2) := cell_later (by simp [go_sem]) hw1
  have B1 := Lib.hid (below_tr (below_alloc3 w _ _ _) hw1)
  have Hs2 := Lib.hid (hs1.below (below_tr (below_alloc _ _) hw1))
  have Hsl := Lib.hid hsl
  clear hs0 hs1 hk hown hw1 hsl
  go_wp2_with fail
  refine (glue_Explain 6 _ 2 2 [14, 18] _ 1 0 _ okPlan_pub (Hs2.out.below (below_alloc _ _)) (sl1_lit1 _ _ _ _ rfl) (by omega) (by omega) (by simp)).mono ?_
  rintro e w2 ⟨u, m, rfl, hm, hw2⟩
  rw [E2.out] at hm
  subst hm
  have B2 := Lib.hid (below_tr B1.out (below_tr (below_alloc _ _) hw2))
  have Hsl2 := Lib.hid (Hsl.out.below (below_tr (below_alloc _ _) hw2))
  clear hw2
  go_wp2_with fail
  refine (pubSame_true _ _ _ _ _ _ [30, 18] _ (Hsl2.out.below (below_alloc _ _)) (sl1_lit _ [.int .i64 30, .int .i64 18] 2 _ 3 rfl rfl (by omega))).mono ?_
  rintro e w3 ⟨rfl, hw3⟩
  go_wp2
  go_ret
  exact ⟨rfl, below_tr B2.out (below_tr (below_alloc _ _) hw3)⟩
end Go.Proofs.X
