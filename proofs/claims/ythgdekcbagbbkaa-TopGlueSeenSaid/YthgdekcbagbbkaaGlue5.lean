/-
  A part of a claim: lemmas and contracts of functions of the program; each theorem says what is proved, and its conditions.
-/
import Derived.Test.YthgdekcbagbbkaaGlue4
import Derived.Test.YthgdekcbagbbkaaLib3
import Derived.Test.YthgdekcbagbbkaaClone
import Derived.Test.YthgdekcbagbbkaaSplit
import Derived.Deep.AppendLies
import Derived.Deep.RegionLaw
open Go Go.RowKit
namespace Go.Proofs.X
def boxStep (s b : Int) (out : List Int) (c : Int × Int × Int) : List Int :=
  if c.2.2 ≤ b then out.set c.1.toNat (gvF s (out.getD c.1.toNat 0) c.2.1 b) else out
def boxF (s : Int) (noz : List Int) (st : List (Int × Int × Int)) (b : Int) : List Int := st.foldl (boxStep s b) noz
theorem boxStep_len (s b out c) : (boxStep s b out c).length = out.length := by unfold boxStep; split <;> simp
theorem boxF_len (s noz st b) : (boxF s noz st b).length = noz.length := by
  unfold boxF
  induction st generalizing noz with
  | nil => rfl
  | cons c st ih => simp [ih, boxStep_len]
theorem boxF_snoc (s noz st c b) : boxF s noz (st ++ [c]) b = boxStep s b (boxF s noz st b) c := by simp [boxF]
def small (l : List Int) : Prop := ∀ x ∈ l, 0 ≤ x ∧ x ≤ 65535
theorem boxStep_small {s b : Int} {out : List Int} {c : Int × Int × Int} (h : small out) (s2 : s ≤ 16) : small (boxStep s b out c) := by
  unfold boxStep
  split
  · intro x hx
    rcases List.mem_or_eq_of_mem_set hx with hx | rfl
    · exact h x hx
    · have h0 : 0 ≤ out.getD c.1.toNat 0 ∧ out.getD c.1.toNat 0 ≤ 65535 := by
        rw [List.getD_eq_getElem?_getD]
        cases ho : out[c.1.toNat]? with
        | none => simp
        | some y => exact h y (List.mem_of_getElem? ho)
      exact gvF_bd _ _ _ _ h0.1 h0.2 s2
  · exact h
theorem boxF_small {s b : Int} {noz : List Int} {st : List (Int × Int × Int)} (h : small noz) (s2 : s ≤ 16) : small (boxF s noz st b) := by
  unfold boxF
  induction st generalizing noz with
  | nil => exact h
  | cons c st ih => exact ih (boxStep_small h s2)
theorem glue_box (s : Int) (a : Option Addr) (n c : Nat) (noz : List Int) (a2 : Option Addr) (n2 c2 : Nat) (st : List (Int × Int × Int)) (b : Int) (w : World) (hp : okPlan s noz) (hs : Sl1 w a n c (ints noz)) (hsp : ∀ x, a = some x → x.spot = none) (hst : ∀ x ∈ st, okCause n x) (h2 : SlK 3 w a2 n2 c2 (causeRows st)) (hb : 0 ≤ b) :
    Calls Try.prog 18 #[.agg #[.int .i64 s, .slice a n c], .slice a2 n2 c2, .int .i64 b] w fun e w' => ∃ v, e = .returned v ∧ w'.ownsRow w.heap.size 3 1 v n (ints (boxF s noz st b)) ∧ Below w.heap.size w w' := by
  have hlen : noz.length = n := by have := hs.len; simpa [ints] using this
  have n2' : (n : Int) ≤ 6 := by have := hp.n2; omega
  have hsm : small noz := by
    intro x hx
    have h1 := hp.all x hx
    have h2 := pow2_bd (k := s.toNat) (m := 16) (by have := hp.s2; omega)
    omega
  have s1 := hp.s1
  have s2 := hp.s2
  have Hs := Lib.hid hs
  have Ht := Lib.hid hst
  have H2 := Lib.hid h2
  have Hsm := Lib.hid hsm
  have Hlen := Lib.hid hlen
  have hn2 : (n2 : Int) ≤ 9223372036854775807 := by have := h2.cap; have := h2.big; omega
  have hn3 : n2 ≤ c2 := h2.cap
  have hb2 : c2 ≤ 9223372036854775807 := h2.big
  have MC := Lib.hid (Clone_int a n c (ints noz) (w.alloc (.cells #[.int .i64 s, .slice a n c] 61)) (by simp [ints, hlen]) (by omega) hs.nil (ints_one _) (fun j u hj => (hs.below (below_alloc _ _)).mem j u hj) hsp)
  clear hs hst h2 hsm hlen hp hsp
  go_enter Try.func18, Try.ntmps18
  go_wp2_with fail
  refine MC.out.mono ?_
  rintro e w1 ⟨v, rfl, hown, hw1⟩
  have p0 : w1.cell? ⟨w.heap.size, 0, none⟩ = some (.int .i64 s) := cell_later (by simp [go_sem]) hw1
  have p1 : w1.cell? ⟨w.heap.size, 1, none⟩ = some (.slice a n c) := cell_later (by simp [go_sem]) hw1
  have B1 := Lib.hid (below_tr (below_alloc _ _) hw1)
  have hz : w.heap.size < w1.heap.size := by have := hw1.size; simp at this; omega
  rw [World.size_alloc] at hown
  have Hown := Lib.hid hown
  clear hown hw1 MC
  go_wp2
  go_loopg [16] n2 (fun g i wr => ∃ k : Nat, k ≤ n2 ∧ n2 - k ≤ g ∧ i = .int .i64 k ∧ wr.cell? ⟨w.heap.size, 0, none⟩ = some (.int .i64 s) ∧ wr.cell? ⟨w.heap.size, 1, none⟩ = some (.slice a n c) ∧ Aside (Below w.heap.size w wr ∧ w.heap.size < wr.heap.size ∧ wr.ownsRow (w.heap.size + 1) 3 1 v n (ints (boxF s noz (st.take k) b))))
  case atStart => exact ⟨0, by omega, by omega, rfl, p0, p1, B1.out, hz, by simpa [boxF] using Hown.out⟩
  case round =>
    obtain ⟨k, hk, hg, rfl, q0, q1, hA⟩ := hrel
    clear p0 p1
    by_cases hlt : k < n2
    · obtain ⟨row, hrow⟩ := H2.out.get hlt
      obtain ⟨bb, o, rfl, hbs, _, hcell⟩ := (H2.out.below hA.out.1).mem k row hrow
      simp only [causeRows, List.getElem?_map, Option.map_eq_some_iff] at hrow
      obtain ⟨x, hx, rfl⟩ := hrow
      obtain ⟨x1, x2, x3⟩ := x
      have hok := Ht.out _ (List.mem_of_getElem? hx)
      obtain ⟨o1, o2, o3, o4, o5, o6⟩ := hok
      dsimp only at o1 o2 o3 o4 o5 o6
      obtain ⟨j, rfl⟩ := Int.eq_ofNat_of_zero_le o1
      have h0 : wr.cell? ⟨bb, o + k * 3, none⟩ = some (.int .i64 j) := hcell 0 _ rfl
      have h1 : wr.cell? ⟨bb, o + k * 3 + 1, none⟩ = some (.int .i64 x2) := hcell 1 _ rfl
      have h2 : wr.cell? ⟨bb, o + k * 3 + 2, none⟩ = some (.int .i64 x3) := hcell 2 _ rfl
      have hjn : j < n := by omega
      have Hx := Lib.hid hx
      clear hcell hx
      by_cases hfr : x3 ≤ b
      · obtain ⟨hA1, hA2, hA3⟩ := hA.out
        obtain ⟨t, ht⟩ : ∃ t, (boxF s noz (st.take k) b)[j]? = some t := ⟨_, List.getElem?_eq_getElem (by rw [boxF_len, Hlen.out]; exact hjn)⟩
        have hts := boxF_small (b := b) (st := st.take k) Hsm.out s2 t (List.mem_of_getElem? ht)
        obtain ⟨av, cv, rfl, _, _, _, hav⟩ := own_slice hA3
        obtain ⟨g, rfl, hg1, hg2, hgc⟩ := own_mem hA3 (ints_get ht)
        have hgf := hA3.frozenAt j
        have HA := Lib.hid (And.intro hA1 hA3)
        have Htt := Lib.hid ht
        have t1 := hts.1
        have t2 := hts.2
        clear hA hA1 hA3 hav ht hts
        go_wp2_with fail
        have ba := below_alloc wr (.cells #[.int .i64 j, .int .i64 x2, .int .i64 x3] 43)
        have y0 : (wr.alloc (.cells #[.int .i64 j, .int .i64 x2, .int .i64 x3] 43)).cell? ⟨wr.heap.size, 0, none⟩ = some (.int .i64 j) := by simp [go_sem]
        have y1 : (wr.alloc (.cells #[.int .i64 j, .int .i64 x2, .int .i64 x3] 43)).cell? ⟨wr.heap.size, 1, none⟩ = some (.int .i64 x2) := by simp [go_sem]
        replace q0 := cell_later q0 ba
        replace q1 := cell_later q1 ba
        replace hgf := frozen_later hgf hg2 ba
        replace hgc := cell_later hgc ba
        replace HA := Lib.hid (And.intro (below_tr HA.out.1 ba) (own_below HA.out.2 ba))
        replace hg2 : g < (wr.alloc (.cells #[.int .i64 j, .int .i64 x2, .int .i64 x3] 43)).heap.size := Nat.lt_of_lt_of_le hg2 ba.size
        clear ba h0 h1 h2
        generalize wr.alloc (.cells #[.int .i64 j, .int .i64 x2, .int .i64 x3] 43) = W1 at *
        have hj0 : (0 : Int) ≤ (j : Int) := by omega
        have hj1 : (j : Int) < (n : Int) := by omega
        refine region_ordL 13 [(0, true), (1, true), (2, true), (3, true), (4, true), (5, true), (6, true), (7, true), (8, true), (9, true), (10, true), (11, true), (12, false)] (fun w' => Below W1.drew.heap.size W1.drew w') (by kernel_rfl) (by kernel_rfl) (Below.refl _ _) ?_
        refine ord_a (v := ?v26) rfl rfl ?hv26 (fun _ _ _ h => h) ?_
        case hv26 => (intro w' hS; have e0 := cell_later (w := W1.drew) q0 hS; have e1 := cell_later (w := W1.drew) q1 hS; have e2 := cell_later (w := W1.drew) y0 hS; have e3 := cell_later (w := W1.drew) y1 hS; have e4 := cell_later (w := W1.drew) hgc hS; go_simp; (try with_reducible rfl))
        (try simp only [Act.put, List.setIfInBounds_toArray, List.set_cons_zero, List.set_cons_succ])
        refine ord_a (v := ?v27) rfl rfl ?hv27 (fun _ _ _ h => h) ?_
        case hv27 => (intro w' hS; have e0 := cell_later (w := W1.drew) q0 hS; have e1 := cell_later (w := W1.drew) q1 hS; have e2 := cell_later (w := W1.drew) y0 hS; have e3 := cell_later (w := W1.drew) y1 hS; have e4 := cell_later (w := W1.drew) hgc hS; go_simp; (try with_reducible rfl))
        (try simp only [Act.put, List.setIfInBounds_toArray, List.set_cons_zero, List.set_cons_succ])
        refine ord_a (v := ?v28) rfl rfl ?hv28 (fun _ _ _ h => h) ?_
        case hv28 => (intro w' hS; have e0 := cell_later (w := W1.drew) q0 hS; have e1 := cell_later (w := W1.drew) q1 hS; have e2 := cell_later (w := W1.drew) y0 hS; have e3 := cell_later (w := W1.drew) y1 hS; have e4 := cell_later (w := W1.drew) hgc hS; go_simp; (try with_reducible rfl))
        (try simp only [Act.put, List.setIfInBounds_toArray, List.set_cons_zero, List.set_cons_succ])
        refine ord_a (v := ?v29) rfl rfl ?hv29 (fun _ _ _ h => h) ?_
        case hv29 => (intro w' hS; have e0 := cell_later (w := W1.drew) q0 hS; have e1 := cell_later (w := W1.drew) q1 hS; have e2 := cell_later (w := W1.drew) y0 hS; have e3 := cell_later (w := W1.drew) y1 hS; have e4 := cell_later (w := W1.drew) hgc hS; go_simp; (try with_reducible rfl))
        (try simp only [Act.put, List.setIfInBounds_toArray, List.set_cons_zero, List.set_cons_succ])
        refine ord_a (v := ?v30) rfl rfl ?hv30 (fun _ _ _ h => h) ?_
        case hv30 => (intro w' hS; have e0 := cell_later (w := W1.drew) q0 hS; have e1 := cell_later (w := W1.drew) q1 hS; have e2 := cell_later (w := W1.drew) y0 hS; have e3 := cell_later (w := W1.drew) y1 hS; have e4 := cell_later (w := W1.drew) hgc hS; go_simp; (try with_reducible rfl))
        (try simp only [Act.put, List.setIfInBounds_toArray, List.set_cons_zero, List.set_cons_succ])
        refine ord_a (v := ?v31) rfl rfl ?hv31 (fun _ _ _ h => h) ?_
        case hv31 => (intro w' hS; have e0 := cell_later (w := W1.drew) q0 hS; have e1 := cell_later (w := W1.drew) q1 hS; have e2 := cell_later (w := W1.drew) y0 hS; have e3 := cell_later (w := W1.drew) y1 hS; have e4 := cell_later (w := W1.drew) hgc hS; go_simp; (try with_reducible rfl))
        (try simp only [Act.put, List.setIfInBounds_toArray, List.set_cons_zero, List.set_cons_succ])
        refine ord_a (v := ?v32) rfl rfl ?hv32 (fun _ _ _ h => h) ?_
        case hv32 => (intro w' hS; have e0 := cell_later (w := W1.drew) q0 hS; have e1 := cell_later (w := W1.drew) q1 hS; have e2 := cell_later (w := W1.drew) y0 hS; have e3 := cell_later (w := W1.drew) y1 hS; have e4 := cell_later (w := W1.drew) hgc hS; go_simp; (try with_reducible rfl))
        (try simp only [Act.put, List.setIfInBounds_toArray, List.set_cons_zero, List.set_cons_succ])
        refine ord_a (v := ?v33) rfl rfl ?hv33 (fun _ _ _ h => h) ?_
        case hv33 => (intro w' hS; have e0 := cell_later (w := W1.drew) q0 hS; have e1 := cell_later (w := W1.drew) q1 hS; have e2 := cell_later (w := W1.drew) y0 hS; have e3 := cell_later (w := W1.drew) y1 hS; have e4 := cell_later (w := W1.drew) hgc hS; go_simp; (try with_reducible rfl))
        (try simp only [Act.put, List.setIfInBounds_toArray, List.set_cons_zero, List.set_cons_succ])
        refine ord_a (v := ?v34) rfl rfl ?hv34 (fun _ _ _ h => h) ?_
        case hv34 => (intro w' hS; have e0 := cell_later (w := W1.drew) q0 hS; have e1 := cell_later (w := W1.drew) q1 hS; have e2 := cell_later (w := W1.drew) y0 hS; have e3 := cell_later (w := W1.drew) y1 hS; have e4 := cell_later (w := W1.drew) hgc hS; go_simp; (try with_reducible rfl))
        (try simp only [Act.put, List.setIfInBounds_toArray, List.set_cons_zero, List.set_cons_succ])
        refine ord_a (v := ?v35) rfl rfl ?hv35 (fun _ _ _ h => h) ?_
        case hv35 => (intro w' hS; have e0 := cell_later (w := W1.drew) q0 hS; have e1 := cell_later (w := W1.drew) q1 hS; have e2 := cell_later (w := W1.drew) y0 hS; have e3 := cell_later (w := W1.drew) y1 hS; have e4 := cell_later (w := W1.drew) hgc hS; go_simp; (try with_reducible rfl))
        (try simp only [Act.put, List.setIfInBounds_toArray, List.set_cons_zero, List.set_cons_succ])
        refine ord_a (v := ?v36) rfl rfl ?hv36 (fun _ _ _ h => h) ?_
        case hv36 => (intro w' hS; have e0 := cell_later (w := W1.drew) q0 hS; have e1 := cell_later (w := W1.drew) q1 hS; have e2 := cell_later (w := W1.drew) y0 hS; have e3 := cell_later (w := W1.drew) y1 hS; have e4 := cell_later (w := W1.drew) hgc hS; go_simp; (try with_reducible rfl))
        (try simp only [Act.put, List.setIfInBounds_toArray, List.set_cons_zero, List.set_cons_succ])
        refine ord_a (v := ?v37) rfl rfl ?hv37 (fun _ _ _ h => h) ?_
        case hv37 => (intro w' hS; have e0 := cell_later (w := W1.drew) q0 hS; have e1 := cell_later (w := W1.drew) q1 hS; have e2 := cell_later (w := W1.drew) y0 hS; have e3 := cell_later (w := W1.drew) y1 hS; have e4 := cell_later (w := W1.drew) hgc hS; go_simp; (try with_reducible rfl))
        (try simp only [Act.put, List.setIfInBounds_toArray, List.set_cons_zero, List.set_cons_succ])
        refine ord_b rfl (fun K hK => ?_)
        go_simp
        refine (glue_gives s (.slice a n c) t x2 b _ s1 s2 t1 t2 o3 o4 hb).mono ?_
        rintro e w2 ⟨rfl, hw2⟩
        (try simp only [Act.put, List.setIfInBounds_toArray, List.set_cons_zero, List.set_cons_succ])
        refine hK.out _ _ (hw2) ?_
        clear hK K
        refine ord_nil ?_
        simp only [Exit.then, List.drop_succ_cons, List.drop_zero]
        have y02 := cell_later (w := W1.drew) y0 hw2
        have hgc2 := cell_later (w := W1.drew) hgc hw2
        have hgf2 := frozen_later (w := W1.drew) hgf hg2 hw2
        have q02 := cell_later (w := W1.drew) q0 hw2
        have q12 := cell_later (w := W1.drew) q1 hw2
        go_wp2
        go_roundg (n2 - (k + 1))
        case measure => omega
        case rel =>
          refine ⟨k + 1, by omega, by omega, by go_num, cell_set_ne q02 (by omega), cell_set_ne q12 (by omega), ?_, ?_, ?_⟩
          · exact (below_tr HA.out.1 (below_tr (below_dr W1 1) hw2)).setCell (by simp; omega) _
          · rw [World.size_setCell]; exact Nat.lt_of_lt_of_le (Nat.lt_of_lt_of_le (cell_lt q0) (Nat.le_refl _)) hw2.size
          · have ho := (own_below HA.out.2 (below_tr (below_dr W1 1) hw2)).stored j (.int .i64 (gvF s t x2 b))
            rw [ints_set] at ho
            rw [take_snoc' Hx.out, boxF_snoc]
            simp only [boxStep, if_pos hfr, Int.toNat_natCast, List.getD_eq_getElem?_getD, Htt.out, Option.getD_some]
            exact ho.1
      · go_wp2
        go_roundg (n2 - (k + 1))
        case measure => omega
        case rel =>
          refine ⟨k + 1, by omega, by omega, by go_num, cell_later q0 (below_alloc _ _), cell_later q1 (below_alloc _ _), ?_, ?_, ?_⟩
          · exact below_tr hA.out.1 (below_alloc _ _)
          · simp; have := hA.out.2.1; omega
          · rw [take_snoc' Hx.out, boxF_snoc]
            simp only [boxStep, if_neg (show ¬ x3 ≤ b by omega)]
            exact own_below hA.out.2.2 (below_alloc _ _)
    · have hk' : k = n2 := by omega
      subst hk'
      go_wp2
      go_ret
      have hl : st.take k = st := List.take_of_length_le (by have := H2.out.len; simp [causeRows] at this; omega)
      rw [hl] at hA
      exact ⟨v, rfl, own_mono hA.out.2.2 (by omega), hA.out.1⟩
end Go.Proofs.X
