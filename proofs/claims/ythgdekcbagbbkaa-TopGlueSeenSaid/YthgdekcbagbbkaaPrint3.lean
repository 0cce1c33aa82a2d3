/-
  A part of a claim: lemmas and contracts of functions of the program; each theorem says what is proved, and its conditions.
-/
import Derived.Test.YthgdekcbagbbkaaPrint2
open Go Go.RowKit
namespace Go.Proofs.X
def mvRow (wd x r : Int) : Int := ((((r.toNat * 2 ^ (max x 0).toNat) / 2 ^ (max (-x) 0).toNat) % 2 ^ wd.toNat : Nat) : Int)
def mvStep (H : Nat) (wd x y : Int) (out : List Int) (k : Nat) (r : Int) : List Int := if 0 ≤ (k : Int) + y ∧ (k : Int) + y < H then out.set ((k : Int) + y).toNat (mvRow wd x r) else out
def movedTo (H : Nat) (wd x y : Int) (rows : List Int) : Nat → List Int
  | 0 => List.replicate H 0
  | k + 1 => match rows[k]? with | some r => mvStep H wd x y (movedTo H wd x y rows k) k r | none => movedTo H wd x y rows k
theorem movedTo_len (H wd x y rows k) : (movedTo H wd x y rows k).length = H := by
  induction k with
  | zero => simp [movedTo]
  | succ k ih =>
    simp only [movedTo]
    cases rows[k]? with
    | none => exact ih
    | some r => simp only [mvStep]; split <;> simp [ih]
theorem wrap64_mask' {s : Int} (h1 : 0 ≤ s) (h2 : s ≤ 10) : wrap64 (wrap64 (2 ^ s.toNat) - 1) = 2 ^ s.toNat - 1 := wrap64_mask h1 (by omega)
theorem mv_val (wd x r px nx : Int) (w1 : 1 ≤ wd) (w2 : wd ≤ 10) (hr0 : 0 ≤ r) (hr1 : r < 2 ^ wd.toNat) (hp : px = max x 0) (hn : nx = max (-x) 0) (x1 : -2 ≤ x) (x2 : x ≤ 2) :
    bits BinOp.and IntKind.i64 (wrap64 (r * 2 ^ px.toNat) / 2 ^ min nx.toNat 64) (wrap64 (wrap64 (2 ^ wd.toNat) - 1)) = mvRow wd x r := by
  have hb := pow2_bd (k := wd.toNat) (m := 10) (by omega)
  have hpn : (2 : Int) ^ wd.toNat = ((2 ^ wd.toNat : Nat) : Int) := pow2_int _
  obtain ⟨R, rfl⟩ := Int.eq_ofNat_of_zero_le hr0
  unfold mvRow
  rw [← hp, ← hn]
  have hpx : px.toNat ≤ 2 := by omega
  have hnx : nx.toNat ≤ 2 := by omega
  generalize px.toNat = p at *
  generalize nx.toNat = q at *
  have h4 : 2 ^ p ≤ 2 ^ 2 := Nat.pow_le_pow_right (by omega) hpx
  have h5 : R * 2 ^ p ≤ 1024 * 4 := Nat.mul_le_mul (by omega) (by omega)
  have e1 : ((R : Int) * 2 ^ p) = ((R * 2 ^ p : Nat) : Int) := by simp
  have e2 : ((R * 2 ^ p : Nat) : Int) / 2 ^ min q 64 = ((R * 2 ^ p / 2 ^ q : Nat) : Int) := by
    rw [show min q 64 = q by omega, pow2_int]
    exact (Int.natCast_ediv _ _).symm
  have h6 : R * 2 ^ p / 2 ^ q ≤ R * 2 ^ p := Nat.div_le_self _ _
  rw [e1, wrap64_in (by omega) (by omega), e2, wrap64_mask' (by omega) w2, Int.toNat_natCast]
  have h7 : R * 2 ^ p / 2 ^ q ≤ 4096 := by omega
  clear e1 e2 h6
  generalize R * 2 ^ p / 2 ^ q = Z at *
  rw [i64_and _ _ (by omega) (by omega) (by omega) (by omega), Int.toNat_natCast, show (2 ^ wd.toNat - 1 : Int).toNat = 2 ^ wd.toNat - 1 by omega, Nat.and_two_pow_sub_one_eq_mod]
theorem info_int2 : (Try.prog.info? 3).map (fun i => (i.zero, i.size, i.bytes)) = some (some (.int .i64 0), 1, 8) := by kernel_rfl
set_option maxRecDepth 100000 in
theorem print_moved (wd hi : Int) (pv : Value) (ap : Option Addr) (np cp : Nat) (a : Option Addr) (n c : Nat) (rows : List Int) (x y : Int) (w : World) (w1 : 1 ≤ wd) (w2 : wd ≤ 10) (h1 : 1 ≤ hi) (h2 : hi ≤ 6) (hr : okRow wd hi rows) (hs : Sl1 w a n c (ints rows)) (x1 : -2 ≤ x) (x2 : x ≤ 2) (y1 : -2 ≤ y) (y2 : y ≤ 2) :
    Calls Try.prog 14 #[.agg #[.int .i64 wd, .int .i64 hi, .slice ap np cp], .slice a n c, .agg #[.int .i64 x, .int .i64 y]] w fun e w' => ∃ v, e = .returned v ∧ w'.ownsRow w.heap.size 3 1 v n (ints (movedTo n wd x y rows n)) ∧ Below w.heap.size w w' := by
  have hlen : rows.length = n := by have := hs.len; simpa [ints] using this
  have hi' : hi = (n : Int) := by rw [← hr.1, hlen]
  subst hi'
  have Hs := Lib.hid hs
  have Hr := Lib.hid hr.2
  have hcap := hs.cap
  have hbig := hs.big
  clear hs hr hlen
  obtain ⟨i0, hi, hz0, hz1, hz2⟩ := info_parts info_int2
  have h0 := below_alloc2 w (.cells #[.int .i64 wd, .int .i64 n, .slice ap np cp] 49) (.cells #[.int .i64 x, .int .i64 y] 37)
  go_enter Try.func14, Try.ntmps14
  go_wp2_with (at_make; refine wpList_make_full _ rfl _ _ 57 rfl w.heap.size 3 i0 _ 1 Try.underlying57 hi hz0 hz1 .i64 .i64 _ _ n rfl rfl rfl rfl (by rw [hz2]; omega) (by unfold maxLen; omega) (by simp; omega) ?_; intro w3 hown hg)
  have p0 : w3.cell? ⟨w.heap.size, 0, none⟩ = some (.int .i64 wd) := hg.cell (a := ⟨w.heap.size, 0, none⟩) (by simp [go_sem]) (by simp)
  have p1 : w3.cell? ⟨w.heap.size, 1, none⟩ = some (.int .i64 n) := hg.cell (a := ⟨w.heap.size, 1, none⟩) (by simp [go_sem]) (by simp)
  have s0 : w3.cell? ⟨w.heap.size + 1, 0, none⟩ = some (.int .i64 x) := hg.cell (a := ⟨w.heap.size + 1, 0, none⟩) (by simp [go_sem]) (by simp)
  have s1 : w3.cell? ⟨w.heap.size + 1, 1, none⟩ = some (.int .i64 y) := hg.cell (a := ⟨w.heap.size + 1, 1, none⟩) (by simp [go_sem]) (by simp)
  have hown' : w3.ownsRow (w.heap.size + 2) 3 1 (.slice (some ⟨w.heap.size + 2, 0, none⟩) n n) n (ints (movedTo n wd x y rows 0)) := by
    simp only [Value.cells, Nat.mul_one, toList_madeCells_one] at hown
    rcases hown.2 with ⟨h, _⟩ | ⟨g, cap, cur, h, _, hh, h5, h6, h7, h8⟩
    · simp at h
    · simp at h
      obtain ⟨rfl, rfl⟩ := h
      refine ⟨by simp [ints, movedTo], .inr ⟨_, _, cur, rfl, Nat.le_refl _, hh, h5, h6, h7, ?_⟩⟩
      rw [h8]; simp [ints, movedTo]
  have B3 := Lib.hid (h0.trans (grown_below (B := w.heap.size) hg (by simp; omega) (by simp)))
  have Hown := Lib.hid hown'
  clear hown hown' hg h0
  go_loopg [17] n (fun g i wr => ∃ k : Nat, k ≤ n ∧ n - k ≤ g ∧ i = .int .i64 k ∧ wr.cell? ⟨w.heap.size, 0, none⟩ = some (.int .i64 wd) ∧ wr.cell? ⟨w.heap.size, 1, none⟩ = some (.int .i64 n) ∧ wr.cell? ⟨w.heap.size + 1, 0, none⟩ = some (.int .i64 x) ∧ wr.cell? ⟨w.heap.size + 1, 1, none⟩ = some (.int .i64 y) ∧ Aside (wr.ownsRow (w.heap.size + 2) 3 1 (.slice (some ⟨w.heap.size + 2, 0, none⟩) n n) n (ints (movedTo n wd x y rows k)) ∧ Below w.heap.size w wr))
  case atStart => exact ⟨0, by omega, by omega, rfl, p0, p1, s0, s1, Hown.out, B3.out⟩
  case round =>
    obtain ⟨k, hk, hg, rfl, q0, q1, r0, r1, hA⟩ := hrel
    clear p0 p1 s0 s1
    by_cases hlt : k < n
    · obtain ⟨u, hu⟩ := Hs.out.get hlt
      obtain ⟨b, o, rfl, hbs, hcell⟩ := (Hs.out.below hA.out.2).mem k _ hu
      simp only [ints, List.getElem?_map, Option.map_eq_some_iff] at hu
      obtain ⟨r, hr, rfl⟩ := hu
      have hrb := Hr.out r (List.mem_of_getElem? hr)
      have hrx := hrb.1
      have hry := hrb.2
      have Hry := Lib.hid hry
      have Hrr := Lib.hid hr
      clear hry hrb hr
      by_cases ht1 : 0 ≤ (k : Int) + y
      · by_cases ht2 : (k : Int) + y < n
        · have hf := hA.out.1.frozenAt ((k : Int) + y).toNat
          have ho : ∃ u, wr.cell? ⟨w.heap.size + 2, ((k : Int) + y).toNat, none⟩ = some u := by
            have := hA.out.1.cellAt ((k : Int) + y).toNat (by omega)
            rw [this]
            exact ⟨_, List.getElem?_eq_getElem (by simp [ints, movedTo_len]; omega)⟩
          obtain ⟨u, hu⟩ := ho
          obtain ⟨px, hpx⟩ : ∃ px, (if x < 0 then 0 else x) = px := ⟨_, rfl⟩
          obtain ⟨nx, hnx⟩ : ∃ nx, (if IntKind.i64.wrap (-x) < 0 then 0 else IntKind.i64.wrap (-x)) = nx := ⟨_, rfl⟩
          have ePx := Lib.hid (show px = max x 0 by rw [← hpx]; split <;> omega)
          have eNx := Lib.hid (show nx = max (-x) 0 by rw [← hnx, wrap_in (by omega) (by omega)]; split <;> omega)
          have px0 : 0 ≤ px := by rw [ePx.out]; omega
          have nx0 : 0 ≤ nx := by rw [eNx.out]; omega
          go_wp2_with fail
          refine region_ordL 18 [(0, true), (1, true), (2, true), (3, true), (4, true), (5, true), (6, true), (7, true), (8, true), (9, true), (10, true), (11, true), (12, true), (13, true), (14, true), (15, true), (16, true), (17, true)] (fun w' => Below wr.drew.heap.size wr.drew w') (by kernel_rfl) (by kernel_rfl) (Below.refl _ _) ?_
          refine ord_a (v := ?v1) rfl rfl ?hv1 (fun _ _ _ h => h) ?_
          case hv1 => (intro w' hS; have e0 := cell_later (w := wr.drew) q0 hS; have e1 := cell_later (w := wr.drew) q1 hS; have e2 := cell_later (w := wr.drew) r0 hS; have e3 := cell_later (w := wr.drew) r1 hS; go_simp; (try with_reducible rfl))
          (try simp only [Act.put, List.setIfInBounds_toArray, List.set_cons_zero, List.set_cons_succ])
          refine ord_a (v := ?v2) rfl rfl ?hv2 (fun _ _ _ h => h) ?_
          case hv2 => (intro w' hS; have e0 := cell_later (w := wr.drew) q0 hS; have e1 := cell_later (w := wr.drew) q1 hS; have e2 := cell_later (w := wr.drew) r0 hS; have e3 := cell_later (w := wr.drew) r1 hS; go_simp; (try with_reducible rfl))
          (try simp only [Act.put, List.setIfInBounds_toArray, List.set_cons_zero, List.set_cons_succ])
          refine ord_a (v := ?v3) rfl rfl ?hv3 (fun _ _ _ h => h) ?_
          case hv3 => (intro w' hS; have e0 := cell_later (w := wr.drew) q0 hS; have e1 := cell_later (w := wr.drew) q1 hS; have e2 := cell_later (w := wr.drew) r0 hS; have e3 := cell_later (w := wr.drew) r1 hS; go_simp; (try with_reducible rfl))
          (try simp only [Act.put, List.setIfInBounds_toArray, List.set_cons_zero, List.set_cons_succ])
          refine ord_a (v := ?v4) rfl rfl ?hv4 (fun _ _ _ h => h) ?_
          case hv4 => (intro w' hS; have e0 := cell_later (w := wr.drew) q0 hS; have e1 := cell_later (w := wr.drew) q1 hS; have e2 := cell_later (w := wr.drew) r0 hS; have e3 := cell_later (w := wr.drew) r1 hS; go_simp; (try with_reducible rfl))
          (try simp only [Act.put, List.setIfInBounds_toArray, List.set_cons_zero, List.set_cons_succ])
          refine ord_a (v := ?v5) rfl rfl ?hv5 (fun _ _ _ h => h) ?_
          case hv5 => (intro w' hS; have e0 := cell_later (w := wr.drew) q0 hS; have e1 := cell_later (w := wr.drew) q1 hS; have e2 := cell_later (w := wr.drew) r0 hS; have e3 := cell_later (w := wr.drew) r1 hS; go_simp; (try with_reducible rfl))
          (try simp only [Act.put, List.setIfInBounds_toArray, List.set_cons_zero, List.set_cons_succ])
          refine ord_a (v := ?v6) rfl rfl ?hv6 (fun _ _ _ h => h) ?_
          case hv6 => (intro w' hS; have e0 := cell_later (w := wr.drew) q0 hS; have e1 := cell_later (w := wr.drew) q1 hS; have e2 := cell_later (w := wr.drew) r0 hS; have e3 := cell_later (w := wr.drew) r1 hS; go_simp; (try with_reducible rfl))
          (try simp only [Act.put, List.setIfInBounds_toArray, List.set_cons_zero, List.set_cons_succ])
          refine ord_a (v := ?v7) rfl rfl ?hv7 (fun _ _ _ h => h) ?_
          case hv7 => (intro w' hS; have e0 := cell_later (w := wr.drew) q0 hS; have e1 := cell_later (w := wr.drew) q1 hS; have e2 := cell_later (w := wr.drew) r0 hS; have e3 := cell_later (w := wr.drew) r1 hS; go_simp; (try with_reducible rfl))
          (try simp only [Act.put, List.setIfInBounds_toArray, List.set_cons_zero, List.set_cons_succ])
          refine ord_a (v := ?v8) rfl rfl ?hv8 (fun _ _ _ h => h) ?_
          case hv8 => (intro w' hS; have e0 := cell_later (w := wr.drew) q0 hS; have e1 := cell_later (w := wr.drew) q1 hS; have e2 := cell_later (w := wr.drew) r0 hS; have e3 := cell_later (w := wr.drew) r1 hS; go_simp; (try with_reducible rfl))
          (try simp only [Act.put, List.setIfInBounds_toArray, List.set_cons_zero, List.set_cons_succ])
          refine ord_a (v := ?v9) rfl rfl ?hv9 (fun _ _ _ h => h) ?_
          case hv9 => (intro w' hS; have e0 := cell_later (w := wr.drew) q0 hS; have e1 := cell_later (w := wr.drew) q1 hS; have e2 := cell_later (w := wr.drew) r0 hS; have e3 := cell_later (w := wr.drew) r1 hS; go_simp; (try with_reducible rfl))
          (try simp only [Act.put, List.setIfInBounds_toArray, List.set_cons_zero, List.set_cons_succ])
          refine ord_a (v := ?v10) rfl rfl ?hv10 (fun _ _ _ h => h) ?_
          case hv10 => (intro w' hS; have e0 := cell_later (w := wr.drew) q0 hS; have e1 := cell_later (w := wr.drew) q1 hS; have e2 := cell_later (w := wr.drew) r0 hS; have e3 := cell_later (w := wr.drew) r1 hS; go_simp; (try with_reducible rfl))
          (try simp only [Act.put, List.setIfInBounds_toArray, List.set_cons_zero, List.set_cons_succ])
          refine ord_a (v := ?v11) rfl rfl ?hv11 (fun _ _ _ h => h) ?_
          case hv11 => (intro w' hS; have e0 := cell_later (w := wr.drew) q0 hS; have e1 := cell_later (w := wr.drew) q1 hS; have e2 := cell_later (w := wr.drew) r0 hS; have e3 := cell_later (w := wr.drew) r1 hS; go_simp; (try with_reducible rfl))
          (try simp only [Act.put, List.setIfInBounds_toArray, List.set_cons_zero, List.set_cons_succ])
          refine ord_a (v := ?v12) rfl rfl ?hv12 (fun _ _ _ h => h) ?_
          case hv12 => (intro w' hS; have e0 := cell_later (w := wr.drew) q0 hS; have e1 := cell_later (w := wr.drew) q1 hS; have e2 := cell_later (w := wr.drew) r0 hS; have e3 := cell_later (w := wr.drew) r1 hS; go_simp; (try with_reducible rfl))
          (try simp only [Act.put, List.setIfInBounds_toArray, List.set_cons_zero, List.set_cons_succ])
          refine ord_a (v := ?v13) rfl rfl ?hv13 (fun _ _ _ h => h) ?_
          case hv13 => (intro w' hS; have e0 := cell_later (w := wr.drew) q0 hS; have e1 := cell_later (w := wr.drew) q1 hS; have e2 := cell_later (w := wr.drew) r0 hS; have e3 := cell_later (w := wr.drew) r1 hS; go_simp; (try with_reducible rfl))
          (try simp only [Act.put, List.setIfInBounds_toArray, List.set_cons_zero, List.set_cons_succ])
          refine ord_a (v := ?v14) rfl rfl ?hv14 (fun _ _ _ h => h) ?_
          case hv14 => (intro w' hS; have e0 := cell_later (w := wr.drew) q0 hS; have e1 := cell_later (w := wr.drew) q1 hS; have e2 := cell_later (w := wr.drew) r0 hS; have e3 := cell_later (w := wr.drew) r1 hS; go_simp; (try with_reducible rfl))
          (try simp only [Act.put, List.setIfInBounds_toArray, List.set_cons_zero, List.set_cons_succ])
          refine ord_a (v := ?v15) rfl rfl ?hv15 (fun _ _ _ h => h) ?_
          case hv15 => (intro w' hS; have e0 := cell_later (w := wr.drew) q0 hS; have e1 := cell_later (w := wr.drew) q1 hS; have e2 := cell_later (w := wr.drew) r0 hS; have e3 := cell_later (w := wr.drew) r1 hS; go_simp; (try with_reducible rfl))
          (try simp only [Act.put, List.setIfInBounds_toArray, List.set_cons_zero, List.set_cons_succ])
          refine ord_a (v := ?v16) rfl rfl ?hv16 (fun _ _ _ h => h) ?_
          case hv16 => (intro w' hS; have e0 := cell_later (w := wr.drew) q0 hS; have e1 := cell_later (w := wr.drew) q1 hS; have e2 := cell_later (w := wr.drew) r0 hS; have e3 := cell_later (w := wr.drew) r1 hS; go_simp; (try with_reducible rfl))
          (try simp only [Act.put, List.setIfInBounds_toArray, List.set_cons_zero, List.set_cons_succ])
          refine ord_a (v := ?v17) rfl rfl ?hv17 (fun _ _ _ h => h) ?_
          case hv17 => (intro w' hS; have e0 := cell_later (w := wr.drew) q0 hS; have e1 := cell_later (w := wr.drew) q1 hS; have e2 := cell_later (w := wr.drew) r0 hS; have e3 := cell_later (w := wr.drew) r1 hS; go_simp; (try with_reducible rfl))
          (try simp only [Act.put, List.setIfInBounds_toArray, List.set_cons_zero, List.set_cons_succ])
          refine ord_a (v := ?v18) rfl rfl ?hv18 (fun _ _ _ h => h) ?_
          case hv18 => (intro w' hS; have e0 := cell_later (w := wr.drew) q0 hS; have e1 := cell_later (w := wr.drew) q1 hS; have e2 := cell_later (w := wr.drew) r0 hS; have e3 := cell_later (w := wr.drew) r1 hS; go_simp; (try with_reducible rfl))
          (try simp only [Act.put, List.setIfInBounds_toArray, List.set_cons_zero, List.set_cons_succ])
          refine ord_nil ?_
          simp only [Exit.then, List.drop_succ_cons, List.drop_zero]
          go_wp2
          rw [mv_val wd x r px nx w1 w2 hrx Hry.out ePx.out eNx.out x1 x2]
          go_roundg (n - (k + 1))
          case measure => omega
          case rel =>
            have hne : w.heap.size ≠ w.heap.size + 2 := by omega
            have hne' : w.heap.size + 1 ≠ w.heap.size + 2 := by omega
            refine ⟨k + 1, by omega, by omega, by go_num, cell_set_ne q0 hne, cell_set_ne q1 hne, cell_set_ne r0 hne', cell_set_ne r1 hne', ?_, ?_⟩
            · have ho := (hA.out.1.stored ((k : Int) + y).toNat (.int .i64 (mvRow wd x r))).1
              rw [ints_set] at ho
              simp only [movedTo, Hrr.out, mvStep]
              rw [if_pos ⟨ht1, ht2⟩]
              exact own_below ho (below_dr _ 1)
            · exact (hA.out.2.setCell (by simp; omega) _).drew
        · go_wp2
          go_roundg (n - (k + 1))
          case measure => omega
          case rel =>
            refine ⟨k + 1, by omega, by omega, by go_num, q0, q1, r0, r1, ?_, hA.out.2⟩
            simp only [movedTo, Hrr.out, mvStep]
            rw [if_neg (by omega)]
            exact hA.out.1
      · go_wp2
        go_roundg (n - (k + 1))
        case measure => omega
        case rel =>
          refine ⟨k + 1, by omega, by omega, by go_num, q0, q1, r0, r1, ?_, hA.out.2⟩
          simp only [movedTo, Hrr.out, mvStep]
          rw [if_neg (by omega)]
          exact hA.out.1
    · have hkn : k = n := by omega
      subst hkn
      go_wp2
      go_ret
      exact ⟨_, rfl, own_mono hA.out.1 (by omega), hA.out.2⟩
end Go.Proofs.X
