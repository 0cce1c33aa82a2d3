/-
  A part of a claim: lemmas and contracts of functions of the program; each theorem says what is proved, and its conditions.
-/
import Derived.Test.YthgdekcbagbbkaaLoad2
open Go Go.RowKit Go.Shelf
namespace Go.Proofs.X
theorem own_cut {w : World} {base : Nat} {e : TypeId} {g n m cap : Nat} {xs ys : List Value} (h : w.ownsRow base e 1 (.slice (some ⟨g, 0, none⟩) n cap) n (xs ++ ys)) (hm : xs.length = m) : w.ownsRow base e 1 (.slice (some ⟨g, 0, none⟩) m cap) m xs := by
  obtain ⟨hl, h⟩ := h
  have hmn : m ≤ n := by simp at hl; omega
  rcases h with ⟨h, _⟩ | ⟨g', cap', cur, hv, hb, hc, hn, hx, hs, ht⟩
  · cases h
  · cases hv
    refine ⟨by omega, .inr ⟨g, cap, cur, rfl, hb, hc, by omega, hx, hs, ?_⟩⟩
    have : cur.toList.take (m * 1) = (cur.toList.take (n * 1)).take (m * 1) := by rw [List.take_take, Nat.min_eq_left (by omega)]
    rw [this, ht, List.take_append_of_le_length (by omega), List.take_of_length_le (by omega)]
theorem DeleteFunc_own (base n : Nat) (v : Value) (zs : List Int) (y : Int) (b o : Nat) (w : World) (h : w.ownsRow base 3 1 v n (ints zs)) (hn : 1 ≤ n) (hbig : (n : Int) ≤ 100000) (hp : w.cell? ⟨b, o, none⟩ = some (.int .i64 y)) (hb : b < base) :
    Calls Try.prog 54 #[v, .func (.func 55) #[] #[.pointer (some ⟨b, o, none⟩)]] w fun e w' => ∃ v', e = .returned v' ∧ w'.ownsRow base 3 1 v' (zs.filter fun x => !(x == y)).length (ints (zs.filter fun x => !(x == y))) ∧ Below base w w' := by
  rcases h.2 with ⟨rfl, rfl⟩ | ⟨g, cap, cur, rfl, _⟩
  · omega
  · obtain ⟨hg, hbg, hc, hz, hH⟩ := row_holds h
    have hbw := cell_lt hp
    have := Try.slices_DeleteFunc (Value.int .i64) (fun x => rfl) (fun x => x == y) 55 #[.pointer (some ⟨b, o, none⟩)] eg_drop2 0 Try.zeroValue3 g 0 cap zs.toArray w
      (fun W x hW => (print_drop2 x y _ W (cell_old hp hW hbw)).mono fun e w' ⟨h1, h2⟩ => ⟨h1, 0, h2⟩)
      (fun q os dk x hd => (print_drop2 x y _ _ (by
        show (Sort.grow (Sort.putRow _ (Sort.ahead w q) g 0 dk) os).cell? _ = _
        rw [Sort.cell?_grow _ _ _ (by simpa [Sort.putRow, Sort.mapBlock, Sort.ahead] using hbw), Sort.cell?_putRow_other _ _ _ _ _ _ (.inl (by show b ≠ g; omega))]
        exact hp)).mono fun e w' ⟨h1, h2⟩ => ⟨h1, 0, h2⟩)
      hH (by simp; omega) (by simp; omega)
    simp only [List.size_toArray, hz] at this
    refine this.mono ?_
    rintro e w' ⟨rfl, q, rfl⟩
    have hl : ((zs.filter fun x => !(x == y)) ++ List.replicate (n - (zs.filter fun x => !(x == y)).length) (0 : Int)).length = n := by
      have := List.length_filter_le (fun x => !(x == y)) zs
      simp only [List.length_append, List.length_replicate]
      omega
    have := row_laid h hg hbg #[] q _ hl
    rw [Sort.grow_empty] at this
    refine ⟨_, rfl, ?_, this.2⟩
    have h1 := this.1
    simp only [ints, List.map_append] at h1
    exact own_cut h1 (List.length_map _)
/-- print.drop -/
def dropF (have_ : List Int) (jobs : List (List Int)) : List Int :=
  have_.filter fun x => !(x == maxF (fun x y => cmpF (useF jobs x) (useF jobs y)) (have_.headD 0) (have_.drop 1))
theorem print_drop (a1 : Option Addr) (n1 c1 : Nat) (zs : List Int) (a : Option Addr) (n c : Nat) (vs : List Value) (jobs : List (List Int)) (w : World) (h1 : Sl1 w a1 n1 c1 (ints zs)) (hn1 : 1 ≤ n1) (hn2 : (n1 : Int) ≤ 1000) (hs : Sl1 w a n c vs) (hr : Rows2 w vs jobs) :
    Calls Try.prog 37 #[.slice a1 n1 c1, .slice a n c] w fun e w' => ∃ v, e = .returned v ∧ w'.ownsRow (w.heap.size + 1) 3 1 v (dropF zs jobs).length (ints (dropF zs jobs)) ∧ Below w.heap.size w w' := by
  have hl : zs.length = n1 := by have := h1.len; simpa [ints] using this
  obtain ⟨z, hz⟩ : ∃ z, zs[0]? = some z := ⟨zs[0]'(by omega), List.getElem?_eq_getElem _⟩
  have hhd : zs.headD 0 = z := by cases zs with | nil => simp at hz | cons x r => simpa using hz
  have H1 := Lib.hid h1
  have Hs := Lib.hid hs
  have Hr := Lib.hid hr
  have Hl := Lib.hid hl
  have Hz := Lib.hid hz
  have hdf : dropF zs jobs = zs.filter fun x => !(x == maxF (fun x y => cmpF (useF jobs x) (useF jobs y)) z (zs.drop 1)) := by unfold dropF; rw [hhd]
  rw [hdf]
  obtain ⟨last, hlast⟩ : ∃ l, maxF (fun x y => cmpF (useF jobs x) (useF jobs y)) z (zs.drop 1) = l := ⟨_, rfl⟩
  rw [hlast]
  have Hlast := Lib.hid hlast
  clear h1 hs hr hl hz hhd hdf hlast
  go_enter Try.func37, Try.ntmps37
  go_wp2_with fail
  have b0 := below_alloc w (.cells #[.slice a n c] 33)
  have p0 : (w.alloc (.cells #[.slice a n c] 33)).cell? ⟨w.heap.size, 0, none⟩ = some (.slice a n c) := by simp [go_sem]
  have hA : ∀ x y w1, Below (w.alloc (.cells #[.slice a n c] 33)).heap.size (w.alloc (.cells #[.slice a n c] 33)) w1 → Calls Try.prog 51 (#[.int .i64 x, .int .i64 y] ++ #[.pointer (some ⟨w.heap.size, 0, none⟩)]) w1 fun e w2 => e = .returned (.int .i64 (cmpF (useF jobs x) (useF jobs y))) ∧ Below w1.heap.size w1 w2 :=
    fun x y w1 hw => print_drop1 a n c vs jobs x y w.heap.size 0 w1 (cell_later p0 hw) (Hs.out.below (below_tr b0 hw)) (Hr.out.below (below_tr b0 hw))
  refine (MaxFunc_int 51 #[.pointer (some ⟨w.heap.size, 0, none⟩)] (fun x y => cmpF (useF jobs x) (useF jobs y)) a1 n1 c1 zs z _ Hz.out (H1.out.below b0) eg_drop1 hA).mono ?_
  rintro e w1 ⟨rfl, hw1⟩
  rw [Hlast.out]
  have hsz : w.heap.size + 1 ≤ w1.heap.size := by have := hw1.size; simpa using this
  have B1 := Lib.hid (below_tr b0 hw1)
  clear hw1 b0 p0 hA
  go_wp2_with fail
  have b1 := below_alloc w1 (.cells #[.int .i64 last] 3)
  have p1 : (w1.alloc (.cells #[.int .i64 last] 3)).cell? ⟨w1.heap.size, 0, none⟩ = some (.int .i64 last) := by simp [go_sem]
  have h1 := H1.out.below (below_tr B1.out b1)
  refine (Clone_int a1 n1 c1 (ints zs) _ (by simp [ints, Hl.out]) (by omega) h1.nil (ints_one zs) (fun j u hj => h1.mem j u hj) (fun x hx => ?_)).mono ?_
  · obtain ⟨b, o, rfl, _⟩ := h1.mem 0 _ (ints_get Hz.out)
    cases hx; rfl
  rintro e w2 ⟨v2, rfl, hown, hw2⟩
  have p2 := cell_later p1 hw2
  have hlt : w1.heap.size < (w1.alloc (.cells #[.int .i64 last] 3)).heap.size := by simp
  have B2 := Lib.hid (below_tr B1.out (below_tr b1 hw2))
  have D := Lib.hid (DeleteFunc_own _ n1 v2 zs last w1.heap.size 0 w2 hown hn1 (by omega) p2 hlt)
  have hsz2 : w.heap.size + 1 ≤ (w1.alloc (.cells #[.int .i64 last] 3)).heap.size := by simp; omega
  have Hsz2 := Lib.hid hsz2
  clear hown hw2 p1 h1 b1 hlt hsz2
  go_wp2_with fail
  refine D.out.mono ?_
  rintro e w3 ⟨v3, rfl, hown, hw3⟩
  have Ho := Lib.hid (own_mono hown Hsz2.out)
  have B3 := Lib.hid (B2.out.trans (hw3.mono (by have := Hsz2.out; omega)))
  clear hown hw3
  go_wp2
  go_ret
  exact ⟨v3, rfl, Ho.out, B3.out⟩
end Go.Proofs.X
