/-
  A part of a claim: lemmas and contracts of functions of the program; each theorem says what is proved, and its conditions.
-/
import Derived.Test.YthgdekcbagbbkaaLoad1
open Go Go.RowKit Go.Shelf
namespace Go.Proofs.X
def cmpF (x y : Int) : Int := if x < y then -1 else if y < x then 1 else 0
theorem isNaN_int (x : Int) (w : World) : Calls Try.prog 69 #[.int .i64 x] w fun e w' => e = .returned (.bool false) ∧ w' = w := by
  go_enter Try.func69, Try.ntmps69
  go_wp2
  go_ret
  simp
theorem Compare_int (x y : Int) (w : World) : Calls Try.prog 52 #[.int .i64 x, .int .i64 y] w fun e w' => e = .returned (.int .i64 (cmpF x y)) ∧ w' = w := by
  unfold cmpF
  by_cases h1 : x < y
  · rw [if_pos h1]
    go_enter Try.func52, Try.ntmps52
    go_wp2_with (go_at_call 69; refine (isNaN_int _ _).mono ?_; rintro e w1 ⟨rfl, rfl⟩)
    go_ret
    exact ⟨rfl, rfl⟩
  · by_cases h2 : y < x
    · rw [if_neg h1, if_pos h2]
      go_enter Try.func52, Try.ntmps52
      go_wp2_with (go_at_call 69; refine (isNaN_int _ _).mono ?_; rintro e w1 ⟨rfl, rfl⟩)
      go_ret
      exact ⟨rfl, rfl⟩
    · rw [if_neg h1, if_neg h2]
      go_enter Try.func52, Try.ntmps52
      go_wp2_with (go_at_call 69; refine (isNaN_int _ _).mono ?_; rintro e w1 ⟨rfl, rfl⟩)
      go_ret
      exact ⟨rfl, rfl⟩
theorem print_drop1 (a : Option Addr) (n c : Nat) (vs : List Value) (jobs : List (List Int)) (x y : Int) (b o : Nat) (w : World) (hp : w.cell? ⟨b, o, none⟩ = some (.slice a n c)) (hs : Sl1 w a n c vs) (hr : Rows2 w vs jobs) :
    Calls Try.prog 51 #[.int .i64 x, .int .i64 y, .pointer (some ⟨b, o, none⟩)] w fun e w' => e = .returned (.int .i64 (cmpF (useF jobs x) (useF jobs y))) ∧ Below w.heap.size w w' := by
  have Hs := Lib.hid hs
  have Hr := Lib.hid hr
  clear hs hr
  go_enter Try.func51, Try.ntmps51
  go_wp2_with fail
  refine region_ordL 5 [(0, true), (1, true), (3, true), (4, true), (2, false)] (fun w' => Below w.drew.heap.size w.drew w') (by kernel_rfl) (by kernel_rfl) (Below.refl _ _) ?_
  refine ord_a (v := ?v38) rfl rfl ?hv38 (fun _ _ _ h => h) ?_
  case hv38 => (intro w' hS; have e0 := cell_later (w := w.drew) hp hS; go_simp; (try with_reducible rfl))
  (try simp only [Act.put, List.setIfInBounds_toArray, List.set_cons_zero, List.set_cons_succ])
  refine ord_a (v := ?v39) rfl rfl ?hv39 (fun _ _ _ h => h) ?_
  case hv39 => (intro w' hS; have e0 := cell_later (w := w.drew) hp hS; go_simp; (try with_reducible rfl))
  (try simp only [Act.put, List.setIfInBounds_toArray, List.set_cons_zero, List.set_cons_succ])
  refine ord_a (v := ?v40) rfl rfl ?hv40 (fun _ _ _ h => h) ?_
  case hv40 => (intro w' hS; have e0 := cell_later (w := w.drew) hp hS; go_simp; (try with_reducible rfl))
  (try simp only [Act.put, List.setIfInBounds_toArray, List.set_cons_zero, List.set_cons_succ])
  refine ord_a (v := ?v41) rfl rfl ?hv41 (fun _ _ _ h => h) ?_
  case hv41 => (intro w' hS; have e0 := cell_later (w := w.drew) hp hS; go_simp; (try with_reducible rfl))
  (try simp only [Act.put, List.setIfInBounds_toArray, List.set_cons_zero, List.set_cons_succ])
  refine ord_b rfl (fun K hK => ?_)
  go_simp
  refine (print_use a n c vs jobs x _ (Hs.out.below (below_dr w 1)) (Hr.out.below (below_dr w 1))).mono ?_
  rintro e w1 ⟨rfl, hw1⟩
  (try simp only [Act.put, List.setIfInBounds_toArray, List.set_cons_zero, List.set_cons_succ])
  refine hK.out _ _ (hw1) ?_
  clear hK K
  refine ord_nil ?_
  simp only [Exit.then, List.drop_succ_cons, List.drop_zero]
  have b1 := below_tr (below_dr w 1) hw1
  have B1 := Lib.hid b1
  have hp1 := cell_later (w := w.drew) hp hw1
  clear hw1 b1
  go_wp2_with fail
  refine (print_use a n c vs jobs y _ (Hs.out.below B1.out) (Hr.out.below B1.out)).mono ?_
  rintro e w2 ⟨rfl, hw2⟩
  have B2 := Lib.hid (below_tr B1.out hw2)
  clear hw2
  go_wp2_with fail
  refine (Compare_int _ _ _).mono ?_
  rintro e w3 ⟨rfl, rfl⟩
  go_wp2
  go_ret
  exact ⟨rfl, B2.out⟩
theorem eg_drop1 : ∀ args w, (callFunc 51 args).run Try.prog w = .ok (.enter 51 args) w := enters_of Try.func51 (by kernel_rfl) rfl

theorem print_drop2 (x y : Int) (p : Addr) (w : World) (hp : w.cell? p = some (.int .i64 y)) :
    Calls Try.prog 55 #[.int .i64 x, .pointer (some p)] w fun e w' => e = .returned (.bool (x == y)) ∧ w' = w := by
  go_enter Try.func55, Try.ntmps55
  go_wp2
  go_ret
  exact ⟨rfl, rfl⟩
theorem eg_drop2 : ∀ args w, (callFunc 55 args).run Try.prog w = .ok (.enter 55 args) w := enters_of Try.func55 (by kernel_rfl) rfl

/-- slices.MaxFunc -/
def maxF (cf : Int → Int → Int) (z : Int) (l : List Int) : Int := l.foldl (fun m x => if 0 < cf x m then x else m) z
theorem MaxFunc_int (f : FuncId) (cs : Array Value) (cf : Int → Int → Int) (a : Option Addr) (n c : Nat) (zs : List Int) (z : Int) (w : World) (hz : zs[0]? = some z) (h : Sl1 w a n c (ints zs))
  (eg : ∀ args w, (callFunc f args).run Try.prog w = .ok (.enter f args) w) (hf : ∀ x y w1, Below w.heap.size w w1 → Calls Try.prog f (#[.int .i64 x, .int .i64 y] ++ cs) w1 fun e w2 => e = .returned (.int .i64 (cf x y)) ∧ Below w1.heap.size w1 w2) :
    Calls Try.prog 50 #[.slice a n c, .func (.func f) #[] cs] w fun e w' => e = .returned (.int .i64 (maxF cf z (zs.drop 1))) ∧ Below w.heap.size w w' := by
  have hl : zs.length = n := by have := h.len; simpa [ints] using this
  have hn1 : 1 ≤ n := by rw [← hl]; exact (List.getElem?_eq_some_iff.1 hz).1
  have hcap := h.cap
  have hbig := h.big
  obtain ⟨b, o, rfl, hbs, hcell⟩ := h.mem 0 _ (ints_get hz)
  rw [Nat.add_zero] at hcell
  have H := Lib.hid h
  have HF := Lib.hid hf
  have HL := Lib.hid hl
  have HZ := Lib.hid hz
  clear h hf hl hz
  go_enter Try.func50, Try.ntmps50
  go_wp2
  go_loopg [5, 6] n (fun g m j wr => ∃ k : Nat, 1 ≤ k ∧ k ≤ n ∧ n - k ≤ g ∧ j = .int .i64 k ∧ m = .int .i64 (maxF cf z ((zs.take k).drop 1)) ∧ Aside (Below w.heap.size w wr))
  case atStart => exact ⟨1, Nat.le_refl _, hn1, by omega, rfl, by simp [maxF], Below.refl _ _⟩
  case round =>
    obtain ⟨k, h1, hk, hg, rfl, rfl, hb⟩ := hrel
    by_cases hlt : k < n
    · obtain ⟨y, hy⟩ : ∃ y, zs[k]? = some y := ⟨zs[k]'(by rw [HL.out]; exact hlt), List.getElem?_eq_getElem _⟩
      obtain ⟨b', o', e', hbs', hcell'⟩ := (H.out.below hb.out).mem k _ (ints_get hy)
      cases e'
      have hmax : maxF cf z ((zs.take (k+1)).drop 1) = if 0 < cf y (maxF cf z ((zs.take k).drop 1)) then y else maxF cf z ((zs.take k).drop 1) := by
        rw [take_snoc' hy, List.drop_append_of_le_length (by rw [List.length_take, HL.out]; omega), maxF, List.foldl_append]
        rfl
      have HM := Lib.hid hmax
      clear hmax hy
      generalize maxF cf z ((zs.take k).drop 1) = m at *
      have hcall := HF.out y m wr hb.out
      by_cases hc : 0 < cf y m
      · obtain ⟨q, hq⟩ : ∃ q, cf y m = q := ⟨_, rfl⟩
        rw [hq] at hcall hc
        have HQ := Lib.hid hq
        clear hq
        go_wp2_with (go_at_fn f; refine hcall.mono ?_; clear hcall; rintro e w2 ⟨rfl, hb2⟩; replace hcell' := cell_later hcell' hb2)
        go_roundg (n - (k+1))
        case measure => omega
        case rel => exact ⟨k+1, by omega, by omega, by omega, by go_num, by rw [HM.out, HQ.out, if_pos hc], hb.out.trans (hb2.mono hb.out.size)⟩
      · obtain ⟨q, hq⟩ : ∃ q, cf y m = q := ⟨_, rfl⟩
        rw [hq] at hcall hc
        have HQ := Lib.hid hq
        clear hq
        go_wp2_with (go_at_fn f; refine hcall.mono ?_; clear hcall; rintro e w2 ⟨rfl, hb2⟩; replace hcell' := cell_later hcell' hb2)
        go_roundg (n - (k+1))
        case measure => omega
        case rel => exact ⟨k+1, by omega, by omega, by omega, by go_num, by rw [HM.out, HQ.out, if_neg (by omega)], hb.out.trans (hb2.mono hb.out.size)⟩
    · have hk' : k = n := by omega
      subst hk'
      have e : zs.take k = zs := List.take_of_length_le (by rw [HL.out]; exact Nat.le_refl _)
      have E := Lib.hid e
      clear e
      go_wp2
      go_ret
      exact ⟨by rw [E.out]; rfl, hb.out⟩
end Go.Proofs.X
