/-
  A part of a claim: lemmas and contracts of functions of the program; each theorem says what is proved, and its conditions.
-/
import Derived.Test.YthgdekcbagbbkaaLoad4
open Go Go.RowKit Go.Shelf
namespace Go.Proofs.X
def stepInk (st : Nat) (rest : List (List Int)) (s : List Int × Int) (x : Int) : List Int × Int :=
  if x ∈ s.1 then s else if s.1.length = st then (dropF s.1 rest ++ [x], s.2 + 1) else (s.1 ++ [x], s.2)
def stepJob (st : Nat) (jobs : List (List Int)) (s : List Int × Int) (k : Nat) : List Int × Int := (jobs.getD k []).foldl (stepInk st (jobs.drop k)) s
/-- print.Load: what the stations have, and how often was washed, when k jobs are over -/
def loadF (st : Nat) (jobs : List (List Int)) (k : Nat) : List Int × Int := (List.range k).foldl (stepJob st jobs) ([], 0)
theorem stepInk_bd (st : Nat) (rest : List (List Int)) (s : List Int × Int) (x : Int) : (stepInk st rest s x).1.length ≤ s.1.length + 1 ∧ s.2 ≤ (stepInk st rest s x).2 ∧ (stepInk st rest s x).2 ≤ s.2 + 1 := by
  unfold stepInk
  split
  · exact ⟨by omega, by omega, by omega⟩
  · split
    · refine ⟨?_, by show s.2 ≤ s.2 + 1; omega, Int.le_refl _⟩
      have : (dropF s.1 rest).length ≤ s.1.length := List.length_filter_le _ _
      simp; exact this
    · exact ⟨by simp, Int.le_refl _, by show s.2 ≤ s.2 + 1; omega⟩
theorem inks_bd (st : Nat) (rest : List (List Int)) : ∀ (l : List Int) (s : List Int × Int), (l.foldl (stepInk st rest) s).1.length ≤ s.1.length + l.length ∧ s.2 ≤ (l.foldl (stepInk st rest) s).2 ∧ (l.foldl (stepInk st rest) s).2 ≤ s.2 + l.length
  | [], s => by simp
  | x :: l, s => by
    have h1 := stepInk_bd st rest s x
    have h2 := inks_bd st rest l (stepInk st rest s x)
    simp only [List.foldl_cons, List.length_cons]
    omega
theorem loadF_succ (st : Nat) (jobs : List (List Int)) (k : Nat) (r : List Int) (hr : jobs[k]? = some r) : loadF st jobs (k + 1) = r.foldl (stepInk st (jobs.drop k)) (loadF st jobs k) := by
  simp only [loadF, List.range_succ, List.foldl_append, List.foldl_cons, List.foldl_nil]
  rw [stepJob, List.getD_eq_getElem?_getD, hr]; rfl
theorem loadF_bd (st : Nat) (jobs : List (List Int)) (hj : ∀ j ∈ jobs, j.length ≤ 4) : ∀ k, (loadF st jobs k).1.length ≤ 4 * k ∧ 0 ≤ (loadF st jobs k).2 ∧ (loadF st jobs k).2 ≤ 4 * k
  | 0 => by simp [loadF]
  | k + 1 => by
    have h1 := loadF_bd st jobs hj k
    cases hk : jobs[k]? with
    | none =>
      have : loadF st jobs (k + 1) = loadF st jobs k := by
        simp only [loadF, List.range_succ, List.foldl_append, List.foldl_cons, List.foldl_nil]
        rw [stepJob, List.getD_eq_getElem?_getD, hk]; rfl
      rw [this]; omega
    | some r =>
      rw [loadF_succ st jobs k r hk]
      have h2 := inks_bd st (jobs.drop k) r (loadF st jobs k)
      have h3 := hj r (List.mem_of_getElem? hk)
      omega
theorem Sl1.from {P : Program} {w : World} {a : Option Addr} {n c : Nat} {vs : List Value} (h : Sl1 w a n c vs) (T : TypeId) (ht : P.underlying T = some (.slice (P.elem T))) (hs : ∀ w, (sizeOf (P.elem T)).run P w = .ok 1 w) (x : Int) (m : Nat) (hx : x = m) (hm : m ≤ n) :
    ∃ a', (∀ w, (Instr.slice T (.slice a n c) (some (.int .i64 x)) none none).run P w = .ok (.slice a' (n - m) (c - m)) w) ∧ ∀ w', Sl1 w' a n c vs → Sl1 w' a' (n - m) (c - m) (vs.drop m) := by
  refine ⟨if c = m then a else a.map (·.add (m * 1)), fun w => ?_, fun w' h' => ?_⟩
  · have := h.cap
    have := h.big
    subst hx
    rw [run_slice_l w T a n c ht .i64 _ (by omega) (by omega), hs]
    simp [Result.andThen, sliced]
  · refine ⟨by rw [List.length_drop, h'.len], by have := h'.cap; omega, by have := h'.big; omega, ?_, fun i v hi => ?_⟩
    · intro hn
      split at hn
      · have := h'.nil hn; omega
      · cases a with
        | none => have := h'.nil rfl; omega
        | some ad => simp at hn
    · rw [List.getElem?_drop] at hi
      obtain ⟨b, o, rfl, hb, hc⟩ := h'.mem _ _ hi
      have hlt := (List.getElem?_eq_some_iff.1 hi).1
      rw [h'.len] at hlt
      have := h'.cap
      rw [if_neg (by omega)]
      exact ⟨b, o + m, by simp [Addr.add_lit], hb, by rw [Nat.add_assoc]; exact hc⟩
theorem Rows2.drop {w : World} {vs : List Value} {pl : List (List Int)} (h : Rows2 w vs pl) (m : Nat) : Rows2 w (vs.drop m) (pl.drop m) :=
  ⟨by simp [h.1], fun i v r hv hr => h.2 (m + i) v r (by rwa [List.getElem?_drop] at hv) (by rwa [List.getElem?_drop] at hr)⟩
theorem infoInt : (Try.prog.info? 3).map (fun i => (i.zero, i.size, i.bytes)) = some (some (.int .i64 0), 1, 8) := by kernel_rfl
set_option maxRecDepth 100000 in
set_option maxHeartbeats 1000000 in
theorem print_Load (st : Nat) (a : Option Addr) (n c : Nat) (vs : List Value) (jobs : List (List Int)) (w : World) (hs1 : 1 ≤ (st : Int)) (hs4 : (st : Int) ≤ 4) (hn : (n : Int) ≤ 7) (hs : Sl1 w a n c vs) (hr : Rows2 w vs jobs) (hok : ∀ j ∈ jobs, j.length ≤ st ∧ (∀ x ∈ j, 1 ≤ x ∧ x ≤ 9) ∧ twiceF j = false) :
    Calls Try.prog 19 #[.slice a n c, .int .i64 st] w fun e w' => e = .returned (.tuple #[.int .i64 (loadF st jobs n).2, .int .i64 0]) ∧ Below w.heap.size w w' := by
  have hl : jobs.length = n := by rw [← hr.1, hs.len]
  have hcap := hs.cap
  have hbig := hs.big
  have hj4 : ∀ j ∈ jobs, j.length ≤ 4 := fun j hj => by have := (hok j hj).1; omega
  have Hs := Lib.hid hs
  have Hr := Lib.hid hr
  have Hl := Lib.hid hl
  have Hok := Lib.hid hok
  have Hbd := Lib.hid (loadF_bd st jobs hj4)
  have Hj4 := Lib.hid hj4
  have m1 := fun a w h => print_within 1 4 a 1 1 [(st : Int)] w h
  rw [any_outside_false (by intro x hx; simp at hx; omega)] at m1
  have M1 := Lib.hid m1
  clear hs hr hl hok m1 hj4
  obtain ⟨i0, hi, hz0, hz1, hz2⟩ := info_parts infoInt
  go_enter Try.func19, Try.ntmps19
  go_wp2_with fail
  have b0 := below_alloc2 w (.cells #[.int .i64 st] 3) (.cells #[.int .i64 st] 3)
  refine (M1.out _ _ (sl1_lit1 _ _ _ _ (by simp))).mono ?_
  rintro e w1 ⟨rfl, hw1⟩
  have q0 : w1.cell? ⟨w.heap.size, 0, none⟩ = some (.int .i64 st) := cell_later (by simp [go_sem]) hw1
  have B1 := Lib.hid (below_tr b0 hw1)
  have hlt1 : w.heap.size + 1 ≤ w1.heap.size := by have := hw1.size; simp at this; omega
  clear hw1 b0
  go_wp2_with fail
  refine (ContainsFunc_ints 32 _ a n c vs (jobs.map fun _ => false) _ (Hs.out.below B1.out) eg_Load1 ⟨by simp [Hr.out.1], fun i v b w2 hv hbb hw => ?_⟩).mono ?_
  · obtain ⟨r, a1, c1, h1, rfl, h2⟩ := Hr.out.get hv
    have hb : b = decide ((st : Int) < r.length) := by
      have := (Hok.out r (List.mem_of_getElem? h1)).1
      have e1 : false = b := by simpa [h1] using hbb
      rw [← e1]; simp; omega
    subst hb
    exact print_Load1 a1 _ c1 st _ w2 (cell_later q0 hw)
  rintro e w2 ⟨rfl, hw2⟩
  rw [show (jobs.map fun _ => false).any id = false by simp]
  replace q0 := cell_later q0 hw2
  replace hlt1 : w.heap.size + 1 ≤ w2.heap.size := Nat.le_trans hlt1 hw2.size
  have B2 := Lib.hid (below_tr B1.out hw2)
  clear hw2
  go_wp2_with fail
  refine (ContainsFunc_ints 33 _ a n c vs (jobs.map fun _ => false) _ (Hs.out.below B2.out) eg_Load2 ⟨by simp [Hr.out.1], fun i v b w3 hv hbb hw => ?_⟩).mono ?_
  · obtain ⟨r, a1, c1, h1, rfl, h2⟩ := Hr.out.get hv
    have hb : b = r.any (outside 1 9) := by
      have := (Hok.out r (List.mem_of_getElem? h1)).2.1
      have e1 : false = b := by simpa [h1] using hbb
      have e2 := any_outside_false this
      rw [← e1]; simpa using e2
    subst hb
    exact print_Load2 a1 _ c1 r w3 (h2.below (below_tr B2.out hw))
  rintro e w3 ⟨rfl, hw3⟩
  rw [show (jobs.map fun _ => false).any id = false by simp]
  replace q0 := cell_later q0 hw3
  replace hlt1 : w.heap.size + 1 ≤ w3.heap.size := Nat.le_trans hlt1 hw3.size
  have B3 := Lib.hid (below_tr B2.out hw3)
  clear hw3
  go_wp2_with fail
  refine (ContainsFunc_ints 35 _ a n c vs (jobs.map fun _ => false) _ (Hs.out.below B3.out) eg_isTwice ⟨by simp [Hr.out.1], fun i v b w4 hv hbb hw => ?_⟩).mono ?_
  · obtain ⟨r, a1, c1, h1, rfl, h2⟩ := Hr.out.get hv
    have hb : b = twiceF r := by
      have := (Hok.out r (List.mem_of_getElem? h1)).2.2
      have e1 : false = b := by simpa [h1] using hbb
      rw [← e1, this]
    subst hb
    have := (Hok.out r (List.mem_of_getElem? h1)).1
    exact print_isTwice a1 _ c1 r w4 (h2.below (below_tr B3.out hw)) (by omega)
  rintro e w4 ⟨rfl, hw4⟩
  rw [show (jobs.map fun _ => false).any id = false by simp]
  replace q0 := cell_later q0 hw4
  replace hlt1 : w.heap.size + 1 ≤ w4.heap.size := Nat.le_trans hlt1 hw4.size
  have B4 := Lib.hid (below_tr B3.out hw4)
  clear hw4 B1 B2 B3
  go_wp2_with fail
  go_loopg [4, 8, 35] n (fun g ws hv i wr => ∃ k : Nat, k ≤ n ∧ n - k ≤ g ∧ i = .int .i64 k ∧ ws = .int .i64 (loadF st jobs k).2 ∧ wr.cell? ⟨w.heap.size, 0, none⟩ = some (.int .i64 st) ∧ Aside (wr.ownsRow (w.heap.size + 1) 3 1 hv (loadF st jobs k).1.length (ints (loadF st jobs k).1) ∧ Below w.heap.size w wr ∧ w.heap.size + 1 ≤ wr.heap.size))
  case atStart => exact ⟨0, by omega, by omega, rfl, rfl, q0, World.ownsRow_nil _ _ _ _, B4.out, hlt1⟩
  case round =>
    obtain ⟨wo, rfl⟩ : ∃ wo : World, wo = wr := ⟨_, rfl⟩
    obtain ⟨k, hk, hg, rfl, rfl, q1, hA⟩ := hrel
    by_cases hlt : k < n
    · obtain ⟨u, hu⟩ := Hs.out.get hlt
      obtain ⟨b, o, rfl, hbs, hcell⟩ := (Hs.out.below hA.out.2.1).mem k _ hu
      obtain ⟨r, ar, cr, hri, rfl, hsr⟩ := Hr.out.get hu
      have hr4 := Hj4.out r (List.mem_of_getElem? hri)
      have hr4' : (r.length : Int) ≤ 4 := by omega
      have hcr := hsr.cap
      have hbr := hsr.big
      have Hsr := Lib.hid hsr
      have Hri := Lib.hid hri
      have hbd := Hbd.out k
      have Hsucc := Lib.hid (loadF_succ st jobs k r hri)
      obtain ⟨s0, hs0⟩ : ∃ s0, loadF st jobs k = s0 := ⟨_, rfl⟩
      rw [hs0] at hbd
      have Hs0 := Lib.hid hs0
      clear hu hri hsr hs0 hr4
      rw [Hs0.out]
      have Hbd0 := Lib.hid hbd
      clear hbd
      have hA' := Lib.hid (show wo.ownsRow (w.heap.size + 1) 3 1 u8 s0.1.length (ints s0.1) ∧ Below w.heap.size w wo ∧ w.heap.size + 1 ≤ wo.heap.size by have := hA.out; rw [Hs0.out] at this; exact this)
      clear hA
      go_wp2_with fail
      go_loopg [4, 8, 42] r.length (fun g ws hv i wr => ∃ j : Nat, j ≤ r.length ∧ r.length - j ≤ g ∧ i = .int .i64 j ∧ ws = .int .i64 ((r.take j).foldl (stepInk st (jobs.drop k)) s0).2 ∧ wr.cell? ⟨w.heap.size, 0, none⟩ = some (.int .i64 st) ∧ Aside (wr.ownsRow (w.heap.size + 1) 3 1 hv ((r.take j).foldl (stepInk st (jobs.drop k)) s0).1.length (ints ((r.take j).foldl (stepInk st (jobs.drop k)) s0).1) ∧ Below w.heap.size w wr ∧ w.heap.size + 1 ≤ wr.heap.size))
      case atStart => exact ⟨0, by omega, by omega, rfl, rfl, q1, hA'.out.1, hA'.out.2.1, hA'.out.2.2⟩
      case round =>
        obtain ⟨wi, rfl⟩ : ∃ wi : World, wi = wr := ⟨_, rfl⟩
        obtain ⟨j, hj, hgj, rfl, rfl, q2, hI⟩ := hrel
        by_cases hltj : j < r.length
        · obtain ⟨x, hx⟩ : ∃ x, r[j]? = some x := ⟨r[j], List.getElem?_eq_getElem _⟩
          obtain ⟨b', o', rfl, hbs', hcell'⟩ := (Hsr.out.below hI.out.2.1).mem j _ (ints_get hx)
          have hstep : (r.take (j + 1)).foldl (stepInk st (jobs.drop k)) s0 = stepInk st (jobs.drop k) ((r.take j).foldl (stepInk st (jobs.drop k)) s0) x := by rw [take_snoc' hx, List.foldl_append]; rfl
          have hb1 := inks_bd st (jobs.drop k) (r.take j) s0
          have Hstep := Lib.hid hstep
          obtain ⟨s, hs⟩ : ∃ s, (r.take j).foldl (stepInk st (jobs.drop k)) s0 = s := ⟨_, rfl⟩
          rw [hs] at hb1
          have hsl : (s.1.length : Int) ≤ 100 := by have := Hbd0.out; have := List.length_take_le j r; omega
          have hs2 : 0 ≤ s.2 := by have := Hbd0.out; omega
          have hs3 : s.2 ≤ 100 := by have := Hbd0.out; have := List.length_take_le j r; omega
          have HS := Lib.hid hs
          have hI0 := hI.out
          rw [hs] at hI0
          have hI' := Lib.hid hI0
          rw [HS.out]
          clear hI hI0 hs hstep hb1 hx
          obtain ⟨av, cv, rfl, hv1, hv2, hv3, hv4⟩ := own_slice hI'.out.1
          obtain ⟨_, _, ev, hv3⟩ := own_sl1 hI'.out.1
          cases ev
          have Hv := Lib.hid hv3
          clear hv3 hv4
          have F := Hs.out.from (P := Try.prog) 33 Try.underlying33 Try.sizeOf23 k k rfl (by omega)
          obtain ⟨a9, F1, F2⟩ := F
          have HF2 := Lib.hid F2
          clear F2
          go_wp2_with fail
          refine (Contains_int av s.1.length cv s.1 x wi Hv.out).mono ?_
          rintro e wi ⟨rfl, rfl⟩
          by_cases hmem : x ∈ s.1
          · rw [decide_eq_true hmem]
            have Hn := Lib.hid (show stepInk st (jobs.drop k) s x = s by simp [stepInk, hmem])
            clear hmem
            go_wp2
            go_roundg (r.length - (j + 1))
            case measure => omega
            case rel => 
              refine ⟨j + 1, by omega, by omega, by go_num, ?_, q2, ?_⟩
              · rw [Hstep.out, HS.out, Hn.out]
              · rw [Hstep.out, HS.out, Hn.out]; exact hI'.out
          · rw [decide_eq_false hmem]
            by_cases hfull : (s.1.length : Int) = st
            · have Hn := Lib.hid (show stepInk st (jobs.drop k) s x = (dropF s.1 (jobs.drop k) ++ [x], s.2 + 1) by simp [stepInk, hmem]; omega)
              have hdl : ((dropF s.1 (jobs.drop k)).length : Int) ≤ 100 := by have : (dropF s.1 (jobs.drop k)).length ≤ s.1.length := List.length_filter_le _ _; omega
              clear hmem
              go_wp2_with fail
              refine (print_drop av s.1.length cv s.1 a9 (n - k) (c - k) (vs.drop k) (jobs.drop k) wi Hv.out (by omega) (by omega) (HF2.out wi (Hs.out.below hI'.out.2.1)) ((Hr.out.drop k).below hI'.out.2.1)).mono ?_
              rintro e w6 ⟨v6, rfl, hown, hw6⟩
              have Ho := Lib.hid (own_mono hown (show w.heap.size + 1 ≤ wi.heap.size + 1 by have := hI'.out.2.2; omega))
              have q6 := cell_later q2 hw6
              have B6 := Lib.hid (below_tr hI'.out.2.1 hw6)
              have hz6 : w.heap.size + 1 ≤ w6.heap.size := Nat.le_trans hI'.out.2.2 hw6.size
              generalize dropF s.1 (jobs.drop k) = dl at *
              clear hown hw6
              obtain ⟨a6, c6, rfl, hv6⟩ := own_slice Ho.out
              clear hv6
              go_wp2_with (at_builtin; refine append_lit rfl _ _ 23 rfl (w.heap.size + 1) 3 i0 _ 1 8 Try.underlying23 hi hz0 hz1 hz2 rfl (by omega) _ _ _ rfl Ho.out [.int .i64 x] 1 _ rfl (by simp) rfl (by simp [Value.oneCell']) (by omega) (by omega) hz6 ?_; intro v' w' ho hg' hb')
              have HO := Lib.hid ho
              have q7 : w'.cell? ⟨w.heap.size, 0, none⟩ = some (.int .i64 st) := (hb'.cell (p := ⟨w.heap.size, 0, none⟩) (Nat.lt_succ_self _)).trans q6
              have HB := Lib.hid (B6.out.trans (hb'.mono (Nat.le_succ _)))
              have hz7 := Nat.le_trans hz6 hb'.size
              clear ho hg' hb'
              go_wp2
              go_roundg (r.length - (j + 1))
              case measure => omega
              case rel => 
                refine ⟨j + 1, by omega, by omega, by go_num, ?_, q7, ?_⟩
                · rw [Hstep.out, HS.out, Hn.out]
                · rw [Hstep.out, HS.out, Hn.out]
                  refine ⟨?_, HB.out, hz7⟩
                  have := HO.out
                  simpa [ints] using this
            · have Hn := Lib.hid (show stepInk st (jobs.drop k) s x = (s.1 ++ [x], s.2) by unfold stepInk; rw [if_neg hmem, if_neg (by omega)])
              have hz6 := hI'.out.2.2
              clear hmem
              go_wp2_with (at_builtin; refine append_lit rfl _ _ 23 rfl (w.heap.size + 1) 3 i0 _ 1 8 Try.underlying23 hi hz0 hz1 hz2 rfl (by omega) _ _ _ rfl hI'.out.1 [.int .i64 x] 1 _ rfl (by simp) rfl (by simp [Value.oneCell']) (by omega) (by omega) hz6 ?_; intro v' w' ho hg' hb')
              have HO := Lib.hid ho
              have q7 : w'.cell? ⟨w.heap.size, 0, none⟩ = some (.int .i64 st) := (hb'.cell (p := ⟨w.heap.size, 0, none⟩) (Nat.lt_succ_self _)).trans q2
              have HB := Lib.hid (hI'.out.2.1.trans (hb'.mono (Nat.le_succ _)))
              have hz7 := Nat.le_trans hz6 hb'.size
              clear ho hg' hb'
              go_wp2
              go_roundg (r.length - (j + 1))
              case measure => omega
              case rel => 
                refine ⟨j + 1, by omega, by omega, by go_num, ?_, q7, ?_⟩
                · rw [Hstep.out, HS.out, Hn.out]
                · rw [Hstep.out, HS.out, Hn.out]
                  refine ⟨?_, HB.out, hz7⟩
                  have := HO.out
                  simpa [ints] using this
        · have hj' : j = r.length := by omega
          have Hs' := Lib.hid (show loadF st jobs (k + 1) = (r.take j).foldl (stepInk st (jobs.drop k)) s0 by rw [Hsucc.out, Hs0.out, hj', List.take_length])
          clear hj'
          go_wp2
          go_roundg (n - (k + 1))
          case measure => omega
          case rel => 
            refine ⟨k + 1, by omega, by omega, by go_num, ?_, q2, ?_⟩
            · rw [Hs'.out]
            · rw [Hs'.out]; exact hI.out
    · have hk' : k = n := by omega
      subst hk'
      go_wp2
      go_ret2
      exact ⟨rfl, hA.out.2.1⟩
end Go.Proofs.X
