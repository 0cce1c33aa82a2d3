/-
  A part of a claim: lemmas and contracts of functions of the program; each theorem says what is proved, and its conditions.
-/
import Derived.Test.YthgdekcbagbbkaaSeq
import Derived.Test.YthgdekcbagbbkaaShelf
open Go Go.RowKit Go.Shelf
namespace Go.Proofs.X
/-- what a row's owner holds after a contract that lays the row anew -/
theorem row_laid {base : Nat} {e : TypeId} {n g cap : Nat} {old : List Value} {w : World} (h : w.ownsRow base e 1 (.slice (some ⟨g, 0, none⟩) n cap) n old) (hg : g < w.heap.size) (hbg : base ≤ g) (os : Array Obj) (q : Nat) (d : List Int) (hd : d.length = n) :
    (Sort.grow (Sort.putRow (Value.int .i64) (Sort.ahead w q) g 0 d.toArray) os).ownsRow base e 1 (.slice (some ⟨g, 0, none⟩) n cap) n (ints d) ∧ Below base w (Sort.grow (Sort.putRow (Value.int .i64) (Sort.ahead w q) g 0 d.toArray) os) := by
  have hsz : (Sort.putRow (Value.int .i64) (Sort.ahead w q) g 0 d.toArray).heap.size = w.heap.size := by simp [Sort.putRow, Sort.mapBlock, Sort.ahead]
  have hold : ∀ k, k < w.heap.size → (Sort.grow (Sort.putRow (Value.int .i64) (Sort.ahead w q) g 0 d.toArray) os).heap[k]? = (Sort.putRow (Value.int .i64) (Sort.ahead w q) g 0 d.toArray).heap[k]? := fun k hk => Sort.heap_grow_old _ _ (by rw [hsz]; exact hk)
  obtain ⟨hl, h⟩ := h
  rcases h with ⟨h, _⟩ | ⟨g', cap', cur, hv, hb, hc, hn, hm, hs, ht⟩
  · cases h
  · cases hv
    refine ⟨⟨by simp [ints, hd], .inr ⟨g, cap, Sort.putCells (Value.int .i64) 0 d.toArray cur, rfl, hb, ?_, hn, hm, by simp [Sort.putCells, hs], ?_⟩⟩, ⟨rfl, rfl, rfl, by simp [hsz], ?_⟩⟩
    · rw [hold g hg]
      show (w.heap.modify g _)[g]? = _
      rw [Array.getElem?_modify, if_pos rfl, hc]
      rfl
    · apply List.ext_getElem?
      intro i
      rw [List.getElem?_take, Nat.mul_one]
      by_cases hi : i < n
      · have hic : i < cur.size := by omega
        rw [if_pos hi]
        simp only [Sort.putCells, Array.getElem?_toList, Array.getElem?_mapIdx, Array.getElem?_eq_getElem hic, Option.map_some, ints, List.getElem?_map]
        rw [if_pos (by simp; omega)]
        simp [hd, hi]
      · rw [if_neg hi, ints, List.getElem?_eq_none (by simp; omega)]
    · intro k hk
      rw [hold k (by omega)]
      show (w.heap.modify g _)[k]? = _
      rw [Array.getElem?_modify, if_neg (by omega)]
theorem row_holds {base : Nat} {e : TypeId} {n g cap : Nat} {zs : List Int} {w : World} (h : w.ownsRow base e 1 (.slice (some ⟨g, 0, none⟩) n cap) n (ints zs)) : g < w.heap.size ∧ base ≤ g ∧ n ≤ cap ∧ zs.length = n ∧ Sort.Holds (Value.int .i64) w g 0 zs.toArray := by
  have hz : zs.length = n := by have := h.1; simpa [ints] using this
  have h' := h
  obtain ⟨hl, h⟩ := h
  rcases h with ⟨h, _⟩ | ⟨g', cap', cur, hv, hb, hc, hn, hm, hs, ht⟩
  · cases h
  · cases hv
    refine ⟨(Array.getElem?_eq_some_iff.1 hc).1, hb, hn, hz, fun j hj => ?_⟩
    have hj' : j < zs.length := by simpa using hj
    refine ⟨?_, by simp [World.frozen?, hc]⟩
    have := own_cell h' (j := j) (u := .int .i64 zs[j]) (by simp [ints, hj'])
    simpa [hj'] using this
/-- the ascending order of a list -/
def asc (zs : List Int) : List Int := zs.mergeSort fun x y => decide (x ≤ y)
theorem sort_ints (base : Nat) (n : Nat) (v : Value) (zs : List Int) (w : World) (h : w.ownsRow base 3 1 v n (ints zs)) (hn : n ≤ 100000) :
    Calls Try.prog 67 #[v] w fun e w' => e = .returned (.tuple #[]) ∧ w'.ownsRow base 3 1 v n (ints (asc zs)) ∧ Below base w w' := by
  have hz : zs.length = n := by have := h.1; simpa [ints] using this
  rcases h.2 with ⟨rfl, rfl⟩ | ⟨g, cap, cur, rfl, _⟩
  · refine (Try.slices_Sort_int_none none 0 w).mono ?_
    rintro e w' ⟨rfl, rfl⟩
    obtain rfl : zs = [] := List.length_eq_zero_iff.1 hz
    exact ⟨rfl, by simpa [asc, ints] using h, Below.refl _ _⟩
  · obtain ⟨hg, hb, hc, _, hH⟩ := row_holds h
    have := Try.slices_Sort_int g 0 cap zs w hH hg (by omega)
    rw [hz] at this
    refine this.mono ?_
    rintro e w' ⟨rfl, q, os, rfl⟩
    have := row_laid h hg hb os q (asc zs) (by simp [asc, hz])
    exact ⟨rfl, this.1, this.2⟩
theorem sorted_ints (g : Nat) (lb : Array Value) (eg : ∀ args w, (callFunc g args).run Try.prog w = .ok (.enter g args) w) (n₀ : Nat) (S Sp : List Int → Prop) (N : Nat) (hN : N ≤ 100000) (w : World) (hn₀ : n₀ ≤ w.heap.size)
    (h : Stops g lb (fun x : Int => #[Value.int .i64 x]) n₀ S Sp N w) :
    Calls Try.prog 46 #[.func (.func g) #[] lb] w fun e w' => ∃ v ss, e = .returned v ∧ S ss ∧ ss.length ≤ N ∧ w'.ownsRow w.heap.size 3 1 v ss.length (ints (asc ss)) ∧ Below w.heap.size w w' := by
  have H := Lib.hid h
  clear h
  go_enter Try.func46, Try.ntmps46
  go_wp2_with fail
  refine (collect_ints g lb eg n₀ S Sp N hN w hn₀ H.out).mono ?_
  rintro e w1 ⟨v, ss, rfl, h1, h2, h3, h4, h5⟩
  have H1 := Lib.hid h1
  have H3 := Lib.hid h3
  clear h1 h3 h4
  go_wp2_with fail
  refine (sort_ints w.heap.size ss.length v ss w1 H3.out (by omega)).mono ?_
  rintro e w2 ⟨rfl, h6, h7⟩
  have H6 := Lib.hid h6
  clear h6
  go_wp2
  go_ret
  exact ⟨v, ss, rfl, H1.out, h2, H6.out, h5.trans h7⟩
/-- slices.Sorted(slices.Values(l)) -/
theorem values_in (a : Option Addr) (n c : Nat) (w : World) :
    Calls Try.prog 47 #[.slice a n c] w fun e w' => e = .returned (.func (.func 68) #[] #[.pointer (some ⟨w.heap.size, 0, none⟩)]) ∧ w' = w.alloc (.cells #[.slice a n c] 23) := by
  go_enter Try.func47, Try.ntmps47
  go_wp2
  go_ret
  exact ⟨rfl, rfl⟩
end Go.Proofs.X
