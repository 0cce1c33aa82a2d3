/-
  A part of a claim: lemmas and contracts of functions of the program; each theorem says what is proved, and its conditions.
-/
import Derived.Test.YthgdekcbagbbkaaPrint5
open Go Go.RowKit
namespace Go.Proofs.X
def shiftRows (l : List (Int × Int)) : List (List Value) := l.map fun s => [.int .i64 s.1, .int .i64 s.2]
/-- what the plates print -/
def sheetOf (H : Nat) (wd : Int) (pl : List (List Int)) (l : List (Int × Int)) (k : Nat) : List (List Int) :=
  (List.range k).map fun i => movedTo H wd (l.getD i (0, 0)).1 (l.getD i (0, 0)).2 (pl.getD i []) H
theorem info_plate : (Try.prog.info? 57).map (fun i => (i.zero, i.size, i.bytes)) = some (some (.slice none 0 0), 1, 24) := by kernel_rfl
theorem movedTo_small (H wd x y rows k) (w1 : 1 ≤ wd) (w2 : wd ≤ 10) : ∀ z ∈ movedTo H wd x y rows k, 0 ≤ z ∧ z < 1024 := by
  have hb : 2 ^ wd.toNat ≤ 2 ^ 10 := Nat.pow_le_pow_right (by omega) (by omega)
  have h0 : 0 < 2 ^ wd.toNat := Nat.pow_pos (by omega)
  induction k with
  | zero => intro z hz; simp [movedTo] at hz; omega
  | succ k ih =>
    intro z hz
    simp only [movedTo] at hz
    cases hr : rows[k]? with
    | none => rw [hr] at hz; exact ih z hz
    | some r =>
      rw [hr] at hz
      simp only [mvStep] at hz
      split at hz
      · rcases List.mem_or_eq_of_mem_set hz with hz | rfl
        · exact ih z hz
        · unfold mvRow
          have := Nat.mod_lt ((r.toNat * 2 ^ (max x 0).toNat) / 2 ^ (max (-x) 0).toNat) h0
          omega
      · exact ih z hz
set_option maxRecDepth 100000 in
theorem print_Show (W H : Nat) (a : Option Addr) (n c : Nat) (vs : List Value) (pl : List (List Int)) (a2 : Option Addr) (c2 : Nat) (l : List (Int × Int)) (w : World) (hj : okJob W H pl) (hs : Sl1 w a n c vs) (hr : Rows2 w vs pl) (hl : SlK 2 w a2 n c2 (shiftRows l)) (hok : ∀ s ∈ l, -2 ≤ s.1 ∧ s.1 ≤ 2 ∧ -2 ≤ s.2 ∧ s.2 ≤ 2) :
    Calls Try.prog 6 #[.agg #[.int .i64 W, .int .i64 H, .slice a n c], .slice a2 n c2] w fun e w' => ∃ v, e = .returned (.tuple #[v, .int .i64 0]) ∧ w'.ownsRow w.heap.size 9 1 v H (textTo (sheetOf H W pl l n) W n H) ∧ Below w.heap.size w w' := by
  have hn : n = pl.length := by rw [← hr.1, hs.len]
  have hn2 : (n : Int) ≤ 3 := by have := hj.p2; omega
  have Hj := Lib.hid hj
  have Hs := Lib.hid hs
  have Hr := Lib.hid hr
  have Hl := Lib.hid hl
  have Hok := Lib.hid hok
  have Hn := Lib.hid hn
  have hcap := hs.cap
  have hbig := hs.big
  have hcap2 := hl.cap
  have hbig2 := hl.big
  clear hj hs hr hl hok hn
  obtain ⟨i0, hi, hz0, hz1, hz2⟩ := info_parts info_plate
  have h0 := below_alloc w (.cells #[.int .i64 W, .int .i64 H, .slice a n c] 35)
  go_enter Try.func6, Try.ntmps6
  go_wp2_with fail
  refine (print_open W H a n c vs pl _ Hj.out (Hs.out.below h0) (Hr.out.below h0)).mono ?_
  rintro e w1 ⟨rfl, hw1⟩
  have q2 : w1.cell? ⟨w.heap.size, 2, none⟩ = some (.slice a n c) := cell_later (by simp [go_sem]) hw1
  have hwz := cell_lt q2
  have B1 := Lib.hid (below_tr h0 hw1)
  clear hw1 h0
  go_wp2_with fail
  have ba := below_alloc w1 (.cells #[.int .i64 W, .int .i64 H, .slice a n c] 49)
  refine (ContainsFunc_shift 11 _ a2 n c2 (shiftRows l) (l.map fun _ => false) _ (Hl.out.below (below_tr B1.out ba)) eg_print_Show1 ?_).mono ?_
  · rw [show aggs (shiftRows l) = l.map fun s => .agg #[.int .i64 s.1, .int .i64 s.2] by simp [aggs, shiftRows]]
    refine Answers.of_map l fun s w3 hx hw => ?_
    have := Hok.out s hx
    exact print_Show1 s.1 s.2 w3 this.1 this.2.1 this.2.2.1 this.2.2.2
  rintro e w2 ⟨rfl, hw2⟩
  rw [show (l.map fun _ => false).any id = false by simp]
  have j0 : w2.cell? ⟨w1.heap.size, 0, none⟩ = some (.int .i64 W) := cell_later (by simp [go_sem]) hw2
  have j1 : w2.cell? ⟨w1.heap.size, 1, none⟩ = some (.int .i64 H) := cell_later (by simp [go_sem]) hw2
  have j2 : w2.cell? ⟨w1.heap.size, 2, none⟩ = some (.slice a n c) := cell_later (by simp [go_sem]) hw2
  have b2 := below_tr ba hw2
  replace q2 := cell_later q2 b2
  have hz1' : w1.heap.size < w2.heap.size := by have := hw2.size; simp at this; omega
  have B2 := Lib.hid (below_tr B1.out b2)
  clear hw2 ba b2
  go_wp2_with fail
  have hlen2 : l.length = n := by have := Hl.out.len; simpa [shiftRows] using this
  have Hlen2 := Lib.hid hlen2
  clear hlen2
  go_loopg [9, 35] n (fun g s i wr => ∃ k : Nat, ∃ us, k ≤ n ∧ n - k ≤ g ∧ i = .int .i64 k ∧ Aside (wr.ownsRow w2.heap.size 57 1 s k us ∧ Rows2T 3 wr us (sheetOf H W pl l k) ∧ Below w2.heap.size w2 wr))
  case atStart => exact ⟨0, [], by omega, by omega, rfl, World.ownsRow_nil _ _ _ _, Rows2T.nil _ _, Below.refl _ _⟩
  case round =>
    obtain ⟨wo, rfl⟩ : ∃ wo : World, wo = wr := ⟨_, rfl⟩
    obtain ⟨k, us, hk, hg, rfl, hA⟩ := hrel
    have t0 := cell_later j0 hA.out.2.2
    have t1 := cell_later j1 hA.out.2.2
    have t2 := cell_later j2 hA.out.2.2
    by_cases hlt : k < n
    · obtain ⟨u, hu⟩ := Hs.out.get hlt
      have hbw := below_tr B2.out hA.out.2.2
      obtain ⟨b, o, rfl, hbs, hcell⟩ := (Hs.out.below hbw).mem k _ hu
      obtain ⟨r, ar, cr, hri, rfl, hsr⟩ := Hr.out.get hu
      obtain ⟨sr, hsr'⟩ := Hl.out.get hlt
      obtain ⟨b', o', rfl, hbs', hsl, hcell'⟩ := (Hl.out.below hbw).mem k _ hsr'
      simp only [shiftRows, List.getElem?_map, Option.map_eq_some_iff] at hsr'
      obtain ⟨⟨x, y⟩, hxy, rfl⟩ := hsr'
      have hb4 := Hok.out _ (List.mem_of_getElem? hxy)
      have s0 : wo.cell? ⟨b', o' + k * 2, none⟩ = some (.int .i64 x) := hcell' 0 _ rfl
      have s1 : wo.cell? ⟨b', o' + k * 2 + 1, none⟩ = some (.int .i64 y) := hcell' 1 _ rfl
      have hro := Hj.out.rows r (List.mem_of_getElem? hri)
      have hrl : r.length = H := by have := hro.1; omega
      have M := Lib.hid (fun w' hw' => print_moved W H (.slice none 0 0) (some ⟨b, o, none⟩) n c ar r.length cr r x y w' Hj.out.w1 Hj.out.w2 Hj.out.h1 Hj.out.h2 hro hw' hb4.1 hb4.2.1 hb4.2.2.1 hb4.2.2.2)
      have Hsr := Lib.hid (hsr.below hbw)
      have hsh : sheetOf H W pl l (k + 1) = sheetOf H W pl l k ++ [movedTo H W x y r H] := by
        simp only [sheetOf, List.range_succ, List.map_append, List.map_cons, List.map_nil]
        rw [List.getD_eq_getElem?_getD, List.getD_eq_getElem?_getD, hxy, hri]; rfl
      have Hsh := Lib.hid hsh
      have Hrl := Lib.hid hrl
      have hk0 : (0 : Int) ≤ k := by omega
      have hk1 : (k : Int) < n := by omega
      clear hu hri hsr hsl hcell' hxy hb4 hro hbw hsh hrl
      go_wp2_with fail
      refine region_ordL 9 [(0, true), (1, true), (2, true), (3, true), (4, true), (5, true), (6, true), (7, false), (8, false)] (fun w' => Below wo.drew.heap.size wo.drew w') (by kernel_rfl) (by kernel_rfl) (Below.refl _ _) ?_
      refine ord_a (v := ?v19) rfl rfl ?hv19 (fun _ _ _ h => h) ?_
      case hv19 => (intro w' hS; have e0 := cell_later (w := wo.drew) t0 hS; have e1 := cell_later (w := wo.drew) t1 hS; have e2 := cell_later (w := wo.drew) t2 hS; have e3 := cell_later (w := wo.drew) s0 hS; have e4 := cell_later (w := wo.drew) s1 hS; go_simp; (try with_reducible rfl))
      (try simp only [Act.put, List.setIfInBounds_toArray, List.set_cons_zero, List.set_cons_succ])
      refine ord_a (v := ?v20) rfl rfl ?hv20 (fun _ _ _ h => h) ?_
      case hv20 => (intro w' hS; have e0 := cell_later (w := wo.drew) t0 hS; have e1 := cell_later (w := wo.drew) t1 hS; have e2 := cell_later (w := wo.drew) t2 hS; have e3 := cell_later (w := wo.drew) s0 hS; have e4 := cell_later (w := wo.drew) s1 hS; go_simp; (try with_reducible rfl))
      (try simp only [Act.put, List.setIfInBounds_toArray, List.set_cons_zero, List.set_cons_succ])
      refine ord_a (v := ?v21) rfl rfl ?hv21 (fun _ _ _ h => h) ?_
      case hv21 => (intro w' hS; have e0 := cell_later (w := wo.drew) t0 hS; have e1 := cell_later (w := wo.drew) t1 hS; have e2 := cell_later (w := wo.drew) t2 hS; have e3 := cell_later (w := wo.drew) s0 hS; have e4 := cell_later (w := wo.drew) s1 hS; go_simp; (try with_reducible rfl))
      (try simp only [Act.put, List.setIfInBounds_toArray, List.set_cons_zero, List.set_cons_succ])
      refine ord_a (v := ?v22) rfl rfl ?hv22 (fun _ _ _ h => h) ?_
      case hv22 => (intro w' hS; have e0 := cell_later (w := wo.drew) t0 hS; have e1 := cell_later (w := wo.drew) t1 hS; have e2 := cell_later (w := wo.drew) t2 hS; have e3 := cell_later (w := wo.drew) s0 hS; have e4 := cell_later (w := wo.drew) s1 hS; go_simp; (try with_reducible rfl))
      (try simp only [Act.put, List.setIfInBounds_toArray, List.set_cons_zero, List.set_cons_succ])
      refine ord_a (v := ?v23) rfl rfl ?hv23 (fun _ _ _ h => h) ?_
      case hv23 => (intro w' hS; have e0 := cell_later (w := wo.drew) t0 hS; have e1 := cell_later (w := wo.drew) t1 hS; have e2 := cell_later (w := wo.drew) t2 hS; have e3 := cell_later (w := wo.drew) s0 hS; have e4 := cell_later (w := wo.drew) s1 hS; go_simp; (try with_reducible rfl))
      (try simp only [Act.put, List.setIfInBounds_toArray, List.set_cons_zero, List.set_cons_succ])
      refine ord_a (v := ?v24) rfl rfl ?hv24 (fun _ _ _ h => h) ?_
      case hv24 => (intro w' hS; have e0 := cell_later (w := wo.drew) t0 hS; have e1 := cell_later (w := wo.drew) t1 hS; have e2 := cell_later (w := wo.drew) t2 hS; have e3 := cell_later (w := wo.drew) s0 hS; have e4 := cell_later (w := wo.drew) s1 hS; go_simp; (try with_reducible rfl))
      (try simp only [Act.put, List.setIfInBounds_toArray, List.set_cons_zero, List.set_cons_succ])
      refine ord_a (v := ?v25) rfl rfl ?hv25 (fun _ _ _ h => h) ?_
      case hv25 => (intro w' hS; have e0 := cell_later (w := wo.drew) t0 hS; have e1 := cell_later (w := wo.drew) t1 hS; have e2 := cell_later (w := wo.drew) t2 hS; have e3 := cell_later (w := wo.drew) s0 hS; have e4 := cell_later (w := wo.drew) s1 hS; go_simp; (try with_reducible rfl))
      (try simp only [Act.put, List.setIfInBounds_toArray, List.set_cons_zero, List.set_cons_succ])
      refine ord_b rfl (fun K hK => ?_)
      go_simp
      refine (M.out _ (Hsr.out.below (below_dr wo 1))).mono ?_
      rintro e w4 ⟨v, rfl, hown, hw4⟩
      rw [Hrl.out] at hown
      obtain ⟨av, cv, rfl, hslv⟩ := own_slT hown
      have Hslv := Lib.hid hslv
      clear hown hslv
      (try simp only [Act.put, List.setIfInBounds_toArray, List.set_cons_zero, List.set_cons_succ])
      refine hK.out _ _ (hw4) ?_
      clear hK K
      refine ord_b rfl (fun K hK => ?_)
      go_simp
      (try simp only [Act.put, List.setIfInBounds_toArray, List.set_cons_zero, List.set_cons_succ])
      refine hK.out _ _ (below_tr hw4 (below_alloc _ _)) ?_
      clear hK K
      refine ord_nil ?_
      simp only [Exit.then, List.drop_succ_cons, List.drop_zero]
      have hb4 := below_tr (below_dr wo 1) hw4
      have Hb4 := Lib.hid hb4
      have ho4 := own_below hA.out.1 hb4
      have Ho4 := Lib.hid ho4
      clear ho4 hb4 hw4
      have hw2w4 := below_tr hA.out.2.2 Hb4.out
      have Hw24 := Lib.hid hw2w4
      clear hw2w4
      go_wp2_with (at_builtin; refine append_lit rfl _ _ 56 rfl w2.heap.size 57 i0 _ 1 24 Try.underlying56 hi hz0 hz1 hz2 rfl (by omega) _ _ _ rfl Ho4.out [_] 1 _ rfl rfl rfl (by simp [Value.oneCell']) (by omega) (by omega) Hw24.out.size ?_; intro v' w' ho hg' hb')
      go_roundg (n - (k + 1))
      case measure => omega
      case rel =>
        refine ⟨k + 1, _, by omega, by omega, by go_num, ho, ?_, Hw24.out.trans hb'⟩
        rw [Hsh.out]
        have hR := (hA.out.2.1.below Hb4.out).below (below_alloc w4 (.cells [Value.slice av H cv].toArray 57))
        have hR2 := hR.grown hg' (own_below Ho4.out (below_alloc _ _)) (by decide)
        have hS2 := (Hslv.out.below (below_alloc w4 (.cells [Value.slice av H cv].toArray 57))).grown hg' (own_below Ho4.out (below_alloc _ _)) (by decide)
        have := hR2.snoc (r := movedTo H W x y r H) (a := av) (c := cv) (by rw [movedTo_len]; exact hS2)
        rw [movedTo_len] at this
        exact this
    · have hkn : k = n := by omega
      subst hkn
      obtain ⟨asl, csl, rfl, hss⟩ := own_sl1 hA.out.1
      have M := print_text W H a k c asl k csl us (sheetOf H W pl l k) wo (by have := Hj.out.w1; omega) (by have := Hj.out.w2; omega) (by have := Hj.out.h1; omega) (by have := Hj.out.h2; omega) hss ⟨hA.out.2.1.1, fun i v r hv hr => let ⟨a', c', h1, h2⟩ := hA.out.2.1.2 i v r hv hr; ⟨a', c', h1, h2.sl1⟩⟩ hn2 (by
        intro r hr
        simp only [sheetOf, List.mem_map] at hr
        obtain ⟨i, _, rfl⟩ := hr
        exact ⟨movedTo_len _ _ _ _ _ _, movedTo_small _ _ _ _ _ _ Hj.out.w1 Hj.out.w2⟩)
      have HM := Lib.hid M
      have hB := Lib.hid (below_tr B2.out hA.out.2.2)
      clear M hss
      go_wp2_with fail
      refine HM.out.mono ?_
      rintro e w5 ⟨v, rfl, hown, hw5⟩
      have Hown := Lib.hid (own_mono hown hB.out.size)
      have Hw5 := Lib.hid (below_tr hB.out hw5)
      clear hown hw5
      go_wp2
      go_ret2
      exact ⟨v, rfl, Hown.out, Hw5.out⟩
end Go.Proofs.X
