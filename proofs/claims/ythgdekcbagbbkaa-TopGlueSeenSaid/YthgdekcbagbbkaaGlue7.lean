/-
  A part of a claim: lemmas and contracts of functions of the program; each theorem says what is proved, and its conditions.
-/
import Derived.Test.YthgdekcbagbbkaaGlue6
open Go Go.RowKit
namespace Go.Proofs.X
/-- how many causes of l come at a later nozzle than a -/
def cnt (a : Int × Int × Int) (l : List (Int × Int × Int)) : Nat := (l.filter fun b => decide (a.1 < b.1)).length
def pairsTo (l : List (Int × Int × Int)) : Nat → Nat
  | 0 => 0
  | k + 1 => pairsTo l k + match l[k]? with | some a => cnt a (l.drop (k + 1)) | none => 0
theorem cnt_snoc (a l b) : cnt a (l ++ [b]) = cnt a l + if a.1 < b.1 then 1 else 0 := by
  unfold cnt
  rw [List.filter_append, List.length_append]
  by_cases h : a.1 < b.1 <;> simp [h]
theorem cnt_le (a l) : cnt a l ≤ l.length := List.length_filter_le _ _
theorem pairsTo_le (l : List (Int × Int × Int)) (k : Nat) : pairsTo l k ≤ k * l.length := by
  induction k with
  | zero => simp [pairsTo]
  | succ k ih =>
    simp only [pairsTo]
    rw [Nat.succ_mul]
    cases l[k]? with
    | none => simp; omega
    | some a => have := cnt_le a (l.drop (k + 1)); simp at this ⊢; omega
theorem info_causes : (Try.prog.info? 44).map (fun i => (i.zero, i.size, i.bytes)) = some (some (.slice none 0 0), 1, 24) := by kernel_rfl
theorem causeRows_len (l : List (Int × Int × Int)) : ∀ r ∈ causeRows l, r.length = 3 := by
  intro r hr
  simp only [causeRows, List.mem_map] at hr
  obtain ⟨x, _, rfl⟩ := hr
  rfl
def allSl (xs : List Value) : Prop := ∀ u ∈ xs, ∃ a k c, u = .slice a k c
theorem allSl_snoc {xs : List Value} (h : allSl xs) (a k c) : allSl (xs ++ [.slice a k c]) := by
  intro u hu
  rcases List.mem_append.1 hu with hu | hu
  · exact h u hu
  · simp at hu; exact ⟨a, k, c, hu⟩
set_option maxRecDepth 100000 in
theorem glue_states (s : Int) (a : Option Addr) (n c : Nat) (a2 : Option Addr) (n2 c2' : Nat) (f : List Int) (w : World) (hn : (n : Int) ≤ 6) (hf : Sl1 w a2 n2 c2' (ints f)) (hn2 : (n2 : Int) ≤ 5) :
    Calls Try.prog 58 #[.agg #[.int .i64 s, .slice a n c], .slice a2 n2 c2'] w fun e w' => ∃ v m xs, e = .returned v ∧ w'.ownsRow w.heap.size 44 1 v m xs ∧ (allSl xs ∧ m = 1 + (c1 n f).length + pairsTo (c1 n f) (c1 n f).length) ∧ Below w.heap.size w w' := by
  have hlen : f.length = n2 := by have := hf.len; simpa [ints] using this
  have Hf := Lib.hid hf
  have Hlen := Lib.hid hlen
  clear hf hlen
  obtain ⟨i0, hi, hz0, hz1, hz2⟩ := info_parts info_causes
  go_enter Try.func58, Try.ntmps58
  go_wp2_with fail
  have h0 := below_alloc w (.cells #[.int .i64 s, .slice a n c] 61)
  refine (glue_causes s a n c a2 n2 c2' f _ hn (Hf.out.below h0) hn2).mono ?_
  rintro e w1 ⟨v, L, rfl, hown, hL, hw1⟩
  have hLb : (L : Int) ≤ 120 := by
    have h1 := c1_len n f
    have h2 : n * 4 * f.length ≤ 6 * 4 * 5 := Nat.mul_le_mul (by omega) (by have := Hlen.out; omega)
    omega
  have B1 := Lib.hid (below_tr h0 hw1)
  obtain ⟨al, cl, rfl, hsl⟩ := own_slK hown (causeRows_len _) (by simp [causeRows, hL])
  have hcap := hsl.cap
  have hbig := hsl.big
  have Hsl := Lib.hid hsl
  have HL := Lib.hid hL
  clear hown hL hw1 hsl h0
  go_wp2
  go_loopg [6, 19] L (fun g o i wr => ∃ k m : Nat, ∃ xs, k ≤ L ∧ L - k ≤ g ∧ i = .int .i64 k ∧ Aside (wr.ownsRow w1.heap.size 44 1 o m xs ∧ (allSl xs ∧ m = 1 + k) ∧ Below w1.heap.size w1 wr))
  case atStart => exact ⟨0, 1, [.slice none 0 0], by omega, by omega, rfl, show _ from ⟨World.ownsRow_lit w1 #[.slice none 0 0] 1 (Nat.le_refl _) (by unfold maxLen; omega) rfl, ⟨by intro u hu; simp at hu; exact ⟨_, _, _, hu⟩, rfl⟩, below_alloc _ _⟩⟩
  case round =>
    obtain ⟨k, m, xs, hk, hg, rfl, hA⟩ := hrel
    by_cases hlt : k < L
    · obtain ⟨row, hrow⟩ := Hsl.out.get hlt
      obtain ⟨b, o, rfl, hbs, hrl, hcell⟩ := (Hsl.out.below hA.out.2.2).mem k row hrow
      obtain ⟨x0, x1, x2, rfl⟩ := len3 hrl
      have q0 : wr.cell? ⟨b, o + k * 3, none⟩ = some x0 := hcell 0 _ rfl
      have q1 : wr.cell? ⟨b, o + k * 3 + 1, none⟩ = some x1 := hcell 1 _ rfl
      have q2 : wr.cell? ⟨b, o + k * 3 + 2, none⟩ = some x2 := hcell 2 _ rfl
      simp only [causeRows, List.getElem?_map, Option.map_eq_some_iff] at hrow
      obtain ⟨⟨y0, y1, y2⟩, hx, hxe⟩ := hrow
      simp only [causeRow, List.cons.injEq, and_true] at hxe
      obtain ⟨rfl, rfl, rfl⟩ := hxe
      clear hcell hrl hx
      go_wp2_with (at_builtin; refine append_lit rfl _ _ 76 rfl w1.heap.size 44 i0 _ 1 24 Try.underlying76 hi hz0 hz1 hz2 rfl (by omega) _ _ _ rfl ((hA.out.1.alloc _).alloc _) [_] 1 _ rfl (by simp) rfl (by simp [Value.oneCell']) (by have := hA.out.2.1.2; omega) (by omega) (by have := hA.out.2.2.size; simp; omega) ?_; intro v' w' ho hg' hb')
      go_roundg (L - (k + 1))
      case measure => omega
      case rel => exact ⟨k + 1, m + 1, _, by omega, by omega, by go_num, ho, ⟨allSl_snoc hA.out.2.1.1 _ _ _, by have := hA.out.2.1.2; omega⟩, (below_tr hA.out.2.2 (below_alloc2 _ _ _)).trans hb'⟩
    · have hkL : k = L := by omega
      subst hkL
      go_wp2
      have hA2 := hA.out
      obtain ⟨W2, hW2⟩ : ∃ W : World, W = wr := ⟨_, rfl⟩
      have hsl2 := Hsl.out.below hA2.2.2
      go_loopg [6, 31] k (fun g o i wr => ∃ p m : Nat, ∃ xs, p ≤ k ∧ k - p ≤ g ∧ i = .int .i64 p ∧ Aside (wr.ownsRow w1.heap.size 44 1 o m xs ∧ (allSl xs ∧ m = 1 + k + pairsTo (c1 n f) p) ∧ Below w1.heap.size w1 wr))
      case atStart => exact ⟨0, m, xs, by omega, by omega, rfl, show _ from ⟨hA2.1, ⟨hA2.2.1.1, by rw [hA2.2.1.2]; rfl⟩, hA2.2.2⟩⟩
      case round =>
        obtain ⟨p, m, xs, hp, hg, rfl, hA⟩ := hrel
        by_cases hlt2 : p < k
        · obtain ⟨row, hrow⟩ := Hsl.out.get hlt2
          obtain ⟨a', hrun, hsub⟩ := Hsl.out.from 44 (by kernel_rfl) (fun w => Try.sizeOf43 w) ((p : Int) + 1) (p + 1) (by omega) (by omega)
          obtain ⟨b, o, rfl, hbs, hrl, hcell⟩ := (Hsl.out.below hA.out.2.2).mem p row hrow
          have Hsub := Lib.hid hsub
          obtain ⟨x0, x1, x2, rfl⟩ := len3 hrl
          have q0 : wr.cell? ⟨b, o + p * 3, none⟩ = some x0 := hcell 0 _ rfl
          have q1 : wr.cell? ⟨b, o + p * 3 + 1, none⟩ = some x1 := hcell 1 _ rfl
          have q2 : wr.cell? ⟨b, o + p * 3 + 2, none⟩ = some x2 := hcell 2 _ rfl
          simp only [causeRows, List.getElem?_map, Option.map_eq_some_iff] at hrow
          obtain ⟨⟨y0, y1, y2⟩, hx, hxe⟩ := hrow
          simp only [causeRow, List.cons.injEq, and_true] at hxe
          obtain ⟨rfl, rfl, rfl⟩ := hxe
          have Hx := Lib.hid hx
          clear hcell hrl hx hsub hsl2 hA2
          go_wp2_with fail
          have hbox : (wr.alloc (.cells #[.int .i64 y0, .int .i64 y1, .int .i64 y2] 43)).heap[wr.heap.size]? = some (.cells #[.int .i64 y0, .int .i64 y1, .int .i64 y2] 43) := block_new _ _
          have hb0 := below_tr hA.out.2.2 (below_alloc wr (.cells #[.int .i64 y0, .int .i64 y1, .int .i64 y2] 43))
          have ho0 := hA.out.1.alloc (.cells #[.int .i64 y0, .int .i64 y1, .int .i64 y2] 43)
          have hm0 := hA.out.2.1
          have Hb0 := Lib.hid (And.intro hbox (And.intro hb0 (And.intro ho0 hm0)))
          clear hbox hb0 ho0 hm0 hA q0 q1 q2
          generalize hB : wr.heap.size = B at *
          have HB := Lib.hid hB
          clear hB
          generalize wr.alloc (.cells #[.int .i64 y0, .int .i64 y1, .int .i64 y2] 43) = W3 at *
          go_loopg [6, 41] (k - (p + 1)) (fun g o i wr => ∃ j m : Nat, ∃ xs, j ≤ k - (p + 1) ∧ k - (p + 1) - j ≤ g ∧ i = .int .i64 j ∧ Aside (wr.ownsRow w1.heap.size 44 1 o m xs ∧ (allSl xs ∧ m = 1 + k + pairsTo (c1 n f) p + cnt (y0, y1, y2) (((c1 n f).drop (p + 1)).take j)) ∧ Below w1.heap.size w1 wr ∧ wr.heap[B]? = some (.cells #[.int .i64 y0, .int .i64 y1, .int .i64 y2] 43)))
          case atStart => exact ⟨0, m, xs, by omega, by omega, rfl, show _ from ⟨Hb0.out.2.2.1, ⟨Hb0.out.2.2.2.1, by rw [Hb0.out.2.2.2.2]; simp [cnt]⟩, Hb0.out.2.1, Hb0.out.1⟩⟩
          case round =>
            obtain ⟨j, m, xs, hj, hg3, rfl, hC⟩ := hrel
            have hmb : (m : Int) ≤ 1 + 120 + 120 * 120 + 120 := by
              have h1 := hC.out.2.1.2
              have h2 := pairsTo_le (c1 n f) p
              have h3 := HL.out
              have h4 : p * (c1 n f).length ≤ 120 * 120 := Nat.mul_le_mul (by omega) (by omega)
              have h5 := cnt_le (y0, y1, y2) (((c1 n f).drop (p + 1)).take j)
              have h6 : (((c1 n f).drop (p + 1)).take j).length ≤ 120 := by simp; omega
              omega
            have p0 : wr.cell? ⟨B, 0, none⟩ = some (.int .i64 y0) := block_cell hC.out.2.2.2 rfl
            have p1 : wr.cell? ⟨B, 1, none⟩ = some (.int .i64 y1) := block_cell hC.out.2.2.2 rfl
            have p2 : wr.cell? ⟨B, 2, none⟩ = some (.int .i64 y2) := block_cell hC.out.2.2.2 rfl
            by_cases hlt3 : j < k - (p + 1)
            · have hsl3 := Hsub.out wr (Hsl.out.below hC.out.2.2.1)
              obtain ⟨row, hrow⟩ := hsl3.get hlt3
              obtain ⟨b', o', rfl, hbs', hrl, hcell⟩ := hsl3.mem j row hrow
              obtain ⟨x0, x1, x2, rfl⟩ := len3 hrl
              have q0 : wr.cell? ⟨b', o' + j * 3, none⟩ = some x0 := hcell 0 _ rfl
              have q1 : wr.cell? ⟨b', o' + j * 3 + 1, none⟩ = some x1 := hcell 1 _ rfl
              have q2 : wr.cell? ⟨b', o' + j * 3 + 2, none⟩ = some x2 := hcell 2 _ rfl
              simp only [causeRows, ← List.map_drop, List.getElem?_map, Option.map_eq_some_iff] at hrow
              obtain ⟨⟨z0, z1, z2⟩, hz, hze⟩ := hrow
              simp only [causeRow, List.cons.injEq, and_true] at hze
              obtain ⟨rfl, rfl, rfl⟩ := hze
              have Hz := Lib.hid hz
              have Hmb := Lib.hid hmb
              clear hcell hrl hz hsl3 hmb
              have hBw : B < wr.heap.size := cell_lt p0
              by_cases hyz : y0 < z0
              · go_wp2_with (at_builtin; refine append_lit rfl _ _ 76 rfl w1.heap.size 44 i0 _ 1 24 Try.underlying76 hi hz0 hz1 hz2 rfl (by omega) _ _ _ rfl ((hC.out.1.alloc _).alloc _) [_] 1 _ rfl (by simp) rfl (by simp [Value.oneCell']) (by have := Hmb.out; omega) (by omega) (by have := hC.out.2.2.1.size; simp; omega) ?_; intro v' w' ho hg' hb')
                go_roundg (k - (p + 1) - (j + 1))
                case measure => omega
                case rel =>
                  refine ⟨j + 1, m + 1, _, by omega, by omega, by go_num, ho, ⟨allSl_snoc hC.out.2.1.1 _ _ _, ?_⟩, (below_tr hC.out.2.2.1 (below_alloc2 _ _ _)).trans hb', ?_⟩
                  · rw [take_snoc' Hz.out, cnt_snoc, if_pos (by exact hyz), hC.out.2.1.2]; omega
                  · exact block_grown hg' (block_old hC.out.2.2.2 (below_alloc3 _ _ _ _)) (own_ne hC.out.1 hC.out.2.2.2 (by decide))
              · go_wp2
                go_roundg (k - (p + 1) - (j + 1))
                case measure => omega
                case rel =>
                  refine ⟨j + 1, m, _, by omega, by omega, by go_num, own_below hC.out.1 (below_alloc _ _), ⟨hC.out.2.1.1, ?_⟩, below_tr hC.out.2.2.1 (below_alloc _ _), block_old hC.out.2.2.2 (below_alloc _ _)⟩
                  rw [take_snoc' Hz.out, cnt_snoc, if_neg (by simp; omega), hC.out.2.1.2]; omega
            · have hjk : j = k - (p + 1) := by omega
              subst hjk
              go_wp2
              go_roundg (k - (p + 1))
              case measure => omega
              case rel =>
                have hl : ((c1 n f).drop (p + 1)).take (k - (p + 1)) = (c1 n f).drop (p + 1) := List.take_of_length_le (by have := HL.out; simp; omega)
                rw [hl] at hC
                exact ⟨p + 1, m, _, by omega, by omega, by go_num, hC.out.1, ⟨hC.out.2.1.1, by rw [hC.out.2.1.2]; simp only [pairsTo, Hx.out]; omega⟩, hC.out.2.2.1⟩
        · have hpk : p = k := by omega
          subst hpk
          go_wp2
          go_ret
          refine ⟨_, m, xs, rfl, own_mono hA.out.1 B1.out.size, ⟨hA.out.2.1.1, ?_⟩, B1.out.trans (hA.out.2.2.mono B1.out.size)⟩
          rw [hA.out.2.1.2, ← HL.out]
end Go.Proofs.X
