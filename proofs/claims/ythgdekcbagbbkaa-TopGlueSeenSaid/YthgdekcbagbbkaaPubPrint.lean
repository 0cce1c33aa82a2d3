/-
  A part of a claim: lemmas and contracts of functions of the program; each theorem says what is proved, and its conditions.
-/
import Derived.Test.YthgdekcbagbbkaaLoad5
import Derived.Test.YthgdekcbagbbkaaPrint6
open Go Go.RowKit Go.Shelf
namespace Go.Proofs.X
theorem Rows2.empty (w : World) : Rows2 w [] [] := ⟨rfl, fun i v r hv => by simp at hv⟩
theorem Rows2.cons {w : World} {vs : List Value} {pl : List (List Int)} {a : Option Addr} {n c : Nat} {r : List Int} (h : Rows2 w vs pl) (hs : Sl1 w a n c (ints r)) (hn : r.length = n) : Rows2 w (.slice a n c :: vs) (r :: pl) := by
  subst hn
  refine ⟨by simp [h.1], fun i v r' hv hr => ?_⟩
  cases i with
  | zero =>
    simp at hv hr
    subst hv; subst hr
    exact ⟨a, c, rfl, hs⟩
  | succ i => exact h.2 i v r' (by simpa using hv) (by simpa using hr)
theorem asc_12 : asc [1, 2] = [1, 2] := List.mergeSort_of_pairwise (by simp)
theorem asc_3 : asc [3] = [3] := List.mergeSort_of_pairwise (by simp)
theorem twice_12 : twiceF [1, 2] = false := by unfold twiceF; rw [asc_12]; decide
theorem twice_3 : twiceF [3] = false := by unfold twiceF; rw [asc_3]; decide
theorem load_pub : (loadF 2 [[1, 2], [3], [1, 2]] 3).2 = 2 := by decide
theorem show_pub : textTo (sheetOf 2 ((4 : Nat) : Int) [[3, 3], [12, 12]] [(0, 0), (1, 0)] 2) 4 2 2 = [.string ⟨#[49, 49, 48, 50]⟩, .string ⟨#[49, 49, 48, 50]⟩] := by
  have h0 : textRow (sheetOf 2 ((4 : Nat) : Int) [[3, 3], [12, 12]] [(0, 0), (1, 0)] 2) ((0 : Nat) : Int) 2 4 = [49, 49, 48, 50] := by decide
  have h1 : textRow (sheetOf 2 ((4 : Nat) : Int) [[3, 3], [12, 12]] [(0, 0), (1, 0)] 2) ((1 : Nat) : Int) 2 4 = [49, 49, 48, 50] := by decide
  unfold textTo
  rw [show List.range 2 = [0, 1] from rfl, List.map_cons, List.map_cons, h0, h1]
  rfl
theorem okJob_pub : okJob 4 2 [[3, 3], [12, 12]] := by constructor <;> simp [okRow]
/-- a literal slice of one-cell elements: the world behind it, by name -/
theorem lit1 (w : World) (b : Nat) (hb : b = w.heap.size) (cs : List Value) (n : Nat) (t : TypeId) (hn : cs.length = n) (hbig : (n : Int) ≤ 1000) :
    ∃ w1, w.alloc (.cells cs.toArray t) = w1 ∧ w1.heap.size = b + 1 ∧ Below w.heap.size w w1 ∧ Sl1 w1 (some ⟨b, 0, none⟩) n n cs :=
  ⟨_, rfl, by simp [hb], below_alloc _ _, sl1_lit w cs n b t hb hn hbig⟩
theorem litK (k : Nat) (w : World) (b : Nat) (hb : b = w.heap.size) (rows : List (List Value)) (cs : Array Value) (hcs : cs = rows.flatten.toArray) (n : Nat) (t : TypeId) (hn : rows.length = n) (hk : ∀ r ∈ rows, r.length = k) (hbig : (n : Int) ≤ 1000) :
    ∃ w1, w.alloc (.cells cs t) = w1 ∧ w1.heap.size = b + 1 ∧ Below w.heap.size w w1 ∧ SlK k w1 (some ⟨b, 0, none⟩) n n rows := by
  subst hcs
  exact ⟨_, rfl, by simp [hb], below_alloc _ _, slK_lit k w rows n b t hb hn hk hbig⟩
/-- a variable's box or a struct's -/
theorem litB (w : World) (b : Nat) (hb : b = w.heap.size) (cs : Array Value) (t : TypeId) :
    ∃ w1, w.alloc (.cells cs t) = w1 ∧ w1.heap.size = b + 1 ∧ Below w.heap.size w w1 ∧ ∀ i v, cs[i]? = some v → w1.cell? ⟨b, i, none⟩ = some v ∧ w1.frozen? ⟨b, i, none⟩ = false := by
  refine ⟨_, rfl, by simp [hb], below_alloc _ _, fun i v h => ?_⟩
  subst hb
  have := block_new w (.cells cs t)
  exact ⟨block_cell this h, by unfold World.frozen?; rw [this]; simp⟩
set_option maxRecDepth 100000 in
theorem pubPrint_true (w : World) : Calls Try.prog 8 #[] w (Ends true w) := by
  have E1 := Lib.hid show_pub
  have E2 := Lib.hid load_pub
  go_enter Try.func8, Try.ntmps8
  go_wp2_with fail
  obtain ⟨w1, h1, z1, b1, s1⟩ := lit1 w w.heap.size rfl [.int .i64 3, .int .i64 3] 2 3 rfl (by omega)
  obtain ⟨w2, h2, z2, b2, s2⟩ := lit1 w1 _ z1.symm [.int .i64 12, .int .i64 12] 2 3 rfl (by omega)
  obtain ⟨w3, h3, z3, b3, s3⟩ := lit1 w2 _ z2.symm [.slice (some ⟨w.heap.size, 0, none⟩) 2 2, .slice (some ⟨w.heap.size + 1, 0, none⟩) 2 2] 2 23 rfl (by omega)
  obtain ⟨w4, h4, z4, b4, s4⟩ := litB w3 _ z3.symm #[.int .i64 4, .int .i64 2, .slice (some ⟨w.heap.size + 1 + 1, 0, none⟩) 2 2] 35
  obtain ⟨w5, h5, z5, b5, s5⟩ := litK 2 w4 _ z4.symm (shiftRows [(0, 0), (1, 0)]) #[.int .i64 0, .int .i64 0, .int .i64 1, .int .i64 0] rfl 2 37 rfl (by simp [shiftRows]) (by omega)
  rw [h1, h2, h3, h4, h5]
  have r5 : Rows2 w5 [.slice (some ⟨w.heap.size, 0, none⟩) 2 2, .slice (some ⟨w.heap.size + 1, 0, none⟩) 2 2] [[3, 3], [12, 12]] := ((Rows2.empty _).cons (s2.below (below_tr b3 (below_tr b4 b5))) rfl).cons (s1.below (below_tr b2 (below_tr b3 (below_tr b4 b5)))) rfl
  have B5 := Lib.hid (below_tr b1 (below_tr b2 (below_tr b3 (below_tr b4 b5))))
  have s35 := s3.below (below_tr b4 b5)
  clear h1 h2 h3 h4 h5 s1 s2 s3 s4 b1 b2 b3 b4 b5 z1 z2 z3 z4 z5
  refine (print_Show 4 2 _ 2 2 _ [[3, 3], [12, 12]] _ 2 [(0, 0), (1, 0)] w5 okJob_pub s35 r5 s5 (by simp)).mono ?_
  rintro e w6 ⟨v, rfl, hown, hw6⟩
  rw [E1.out] at hown
  obtain ⟨av, cv, rfl, hsl⟩ := own_sl1 hown
  obtain ⟨b, o, rfl, hlt, hc⟩ := hsl.mem 0 _ rfl
  have hcv1 := hsl.cap
  have hcv2 := hsl.big
  have B6 := Lib.hid (below_tr B5.out hw6)
  clear hown hsl hw6 r5 s35 s5 B5
  rw [Nat.add_zero] at hc
  go_wp2_with fail
  generalize hz : w6.heap.size = z at *
  obtain ⟨w7, h1, z1, b1, s1⟩ := lit1 w6 z hz.symm [.int .i64 1, .int .i64 2] 2 3 rfl (by omega)
  obtain ⟨w8, h2, z2, b2, s2⟩ := lit1 w7 _ z1.symm [.int .i64 3] 1 3 rfl (by omega)
  obtain ⟨w9, h3, z3, b3, s3⟩ := lit1 w8 _ z2.symm [.int .i64 1, .int .i64 2] 2 3 rfl (by omega)
  obtain ⟨wa, h4, z4, b4, s4⟩ := lit1 w9 _ z3.symm [.slice (some ⟨z, 0, none⟩) 2 2, .slice (some ⟨z + 1, 0, none⟩) 1 1, .slice (some ⟨z + 1 + 1, 0, none⟩) 2 2] 3 23 rfl (by omega)
  rw [h1, h2, h3, h4]
  have ra : Rows2 wa [.slice (some ⟨z, 0, none⟩) 2 2, .slice (some ⟨z + 1, 0, none⟩) 1 1, .slice (some ⟨z + 1 + 1, 0, none⟩) 2 2] [[1, 2], [3], [1, 2]] := (((Rows2.empty _).cons (s3.below b4) rfl).cons (s2.below (below_tr b3 b4)) rfl).cons (s1.below (below_tr b2 (below_tr b3 b4))) rfl
  have Ba := below_tr b1 (below_tr b2 (below_tr b3 b4))
  have hca := cell_later hc Ba
  have BA := Lib.hid (below_tr B6.out Ba)
  clear h1 h2 h3 h4 s1 s2 s3 b1 b2 b3 b4 z1 z2 z3 z4 Ba hc B6 hlt
  refine (print_Load 2 _ 3 3 _ [[1, 2], [3], [1, 2]] wa (by omega) (by omega) (by omega) s4 ra (by simp [twice_12, twice_3])).mono ?_
  rintro e wb ⟨rfl, hwb⟩
  rw [E2.out]
  have hcb := cell_later hca hwb
  have BB := Lib.hid (below_tr BA.out hwb)
  clear hwb hca ra s4 BA
  go_wp2
  go_ret
  exact ⟨rfl, BB.out⟩
end Go.Proofs.X
