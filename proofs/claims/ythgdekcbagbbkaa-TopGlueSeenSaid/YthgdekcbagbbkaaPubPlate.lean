/-
  A part of a claim: lemmas and contracts of functions of the program; each theorem says what is proved, and its conditions.
-/
import Derived.Test.YthgdekcbagbbkaaPubPrint
open Go Go.RowKit Go.Shelf
namespace Go.Proofs.X
def plateW (x0 : Int) : Int := 3 + x0 % 6
def plateR (x0 : Int) (l : List Int) : List Int := l.map fun x => x % 2 ^ (plateW x0).toNat
set_option maxRecDepth 100000 in
theorem pubPlate_spec (x0 x1 x2 x3 : Int) (w : World) (h0 : 0 ≤ x0) (h0' : x0 ≤ 255) (hx : ∀ x ∈ [x1, x2, x3], 0 ≤ x ∧ x ≤ 255) :
    Calls Try.prog 4 #[.agg #[.int .u8 x0, .int .u8 x1, .int .u8 x2, .int .u8 x3]] w fun e w' => ∃ v, e = .returned (.tuple #[v, .int .i64 (plateW x0)]) ∧ w'.ownsRow w.heap.size 3 1 v 3 (ints (plateR x0 [x1, x2, x3])) ∧ Below w.heap.size w w' := by
  obtain ⟨i0, hi, hz0, hz1, hz2⟩ := info_parts infoInt
  have Hx := Lib.hid hx
  clear hx
  go_enter Try.func4, Try.ntmps4
  go_wp2_with fail
  have c0 : ((w.alloc (.cells #[.int .u8 x0, .int .u8 x1, .int .u8 x2, .int .u8 x3] 22)).alloc (.cells #[] 3)).cell? ⟨w.heap.size, 1, none⟩ = some (.int .u8 x1) := by simp [go_sem]
  have c2 : ((w.alloc (.cells #[.int .u8 x0, .int .u8 x1, .int .u8 x2, .int .u8 x3] 22)).alloc (.cells #[] 3)).cell? ⟨w.heap.size, 2, none⟩ = some (.int .u8 x2) := by simp [go_sem]
  have c3 : ((w.alloc (.cells #[.int .u8 x0, .int .u8 x1, .int .u8 x2, .int .u8 x3] 22)).alloc (.cells #[] 3)).cell? ⟨w.heap.size, 3, none⟩ = some (.int .u8 x3) := by simp [go_sem]
  have hown := World.ownsRow_made (base := w.heap.size + 1) (e := 3) (size := 1) (w.alloc (.cells #[.int .u8 x0, .int .u8 x1, .int .u8 x2, .int .u8 x3] 22)) #[] 0 (by simp) (by decide) rfl
  rw [World.size_alloc] at hown
  have HO := Lib.hid hown
  have HB := Lib.hid (below_alloc2 w (.cells #[.int .u8 x0, .int .u8 x1, .int .u8 x2, .int .u8 x3] 22) (.cells #[] 3))
  have hz : w.heap.size + 1 ≤ ((w.alloc (.cells #[.int .u8 x0, .int .u8 x1, .int .u8 x2, .int .u8 x3] 22)).alloc (.cells #[] 3)).heap.size := by simp
  clear hown
  generalize (w.alloc (.cells #[.int .u8 x0, .int .u8 x1, .int .u8 x2, .int .u8 x3] 22)).alloc (.cells #[] 3) = W0 at *
  go_loopg [5, 6] 3 (fun g v i wr => ∃ k : Nat, k ≤ 3 ∧ 3 - k ≤ g ∧ i = .int .i64 (k + 1) ∧ wr.cell? ⟨w.heap.size, 1, none⟩ = some (.int .u8 x1) ∧ wr.cell? ⟨w.heap.size, 2, none⟩ = some (.int .u8 x2) ∧ wr.cell? ⟨w.heap.size, 3, none⟩ = some (.int .u8 x3) ∧ Aside (wr.ownsRow (w.heap.size + 1) 3 1 v k ((ints (plateR x0 [x1, x2, x3])).take k) ∧ Below w.heap.size w wr ∧ w.heap.size + 1 ≤ wr.heap.size))
  case atStart => exact ⟨0, by omega, by omega, rfl, c0, c2, c3, HO.out, HB.out, hz⟩
  case round =>
    obtain ⟨k, hk, hg, rfl, d1, d2, d3, hA⟩ := hrel
    by_cases hlt : k < 3
    · have hz' := hA.out.2.2
      obtain ⟨x, hx⟩ : ∃ x, [x1, x2, x3][k]? = some x := ⟨[x1, x2, x3][k], List.getElem?_eq_getElem (by simpa using hlt)⟩
      have dx : wr.cell? ⟨w.heap.size, k + 1, none⟩ = some (.int .u8 x) := by
        rcases k with _ | _ | _ | k
        · simp at hx; subst hx; exact d1
        · simp at hx; subst hx; exact d2
        · simp at hx; subst hx; exact d3
        · omega
      have hx2 := Hx.out x (List.mem_of_getElem? hx)
      have hx3 := hx2.1
      have hx4 := hx2.2
      have HX := Lib.hid hx
      clear hx hx2
      obtain ⟨av, cv, rfl, hv1, hv2, hv3, hv4⟩ := own_slice hA.out.1
      clear hv3 hv4
      obtain ⟨M, hM⟩ : ∃ M, wrap64 (2 ^ (3 + x0 % 6).toNat) = M := ⟨_, rfl⟩
      have hM1 : M = 2 ^ (plateW x0).toNat := by rw [← hM, wrap64_in (by have := pow2_bd (show (3 + x0 % 6).toNat ≤ 8 by omega); omega) (by have := pow2_bd (show (3 + x0 % 6).toNat ≤ 8 by omega); omega)]; rfl
      have hM2 : 1 ≤ M ∧ M ≤ 256 := by rw [hM1]; exact pow2_bd (show (plateW x0).toNat ≤ 8 by unfold plateW; omega)
      have hM3 := hM2.1
      have hM4 := hM2.2
      have HM := Lib.hid hM1
      have hM5 : ¬ M = 0 := by omega
      clear hM1 hM2
      go_wp2_with (at_builtin; refine append_lit rfl _ _ 23 rfl (w.heap.size + 1) 3 i0 _ 1 8 Try.underlying23 hi hz0 hz1 hz2 rfl (by omega) _ _ _ rfl hA.out.1 [.int .i64 (x % M)] 1 _ rfl (by simp) rfl (by simp [Value.oneCell']) (by omega) (by omega) hA.out.2.2 ?_; intro v' w' ho hg' hb')
      have HO' := Lib.hid ho
      have e1 : w'.cell? ⟨w.heap.size, 1, none⟩ = some (.int .u8 x1) := (hb'.cell (p := ⟨w.heap.size, 1, none⟩) (Nat.lt_succ_self _)).trans d1
      have e2 : w'.cell? ⟨w.heap.size, 2, none⟩ = some (.int .u8 x2) := (hb'.cell (p := ⟨w.heap.size, 2, none⟩) (Nat.lt_succ_self _)).trans d2
      have e3 : w'.cell? ⟨w.heap.size, 3, none⟩ = some (.int .u8 x3) := (hb'.cell (p := ⟨w.heap.size, 3, none⟩) (Nat.lt_succ_self _)).trans d3
      have HB' := Lib.hid (hA.out.2.1.trans (hb'.mono (Nat.le_succ _)))
      have hz7 := Nat.le_trans hA.out.2.2 hb'.size
      clear ho hg' hb'
      go_roundg (3 - (k + 1))
      case measure => omega
      case rel =>
        refine ⟨k + 1, by omega, by omega, by simp, e1, e2, e3, ?_, HB'.out, hz7⟩
        have := HO'.out
        have hg : (ints (plateR x0 [x1, x2, x3]))[k]? = some (.int .i64 (x % M)) := by
          rw [HM.out]
          unfold ints plateR
          rw [List.getElem?_map, List.getElem?_map, HX.out]; rfl
        rw [take_snoc' hg]
        exact this
    · have hk' : k = 3 := by omega
      subst hk'
      obtain ⟨av, cv, rfl, hv1, hv2, hv3, hv4⟩ := own_slice hA.out.1
      clear hv3 hv4
      have Ho := Lib.hid (own_mono hA.out.1 (Nat.le_succ _))
      have Hb := Lib.hid hA.out.2.1
      clear hA
      have e9 : plateW x0 = 3 + x0 % 6 := rfl
      go_wp2
      go_ret2
      exact ⟨_, rfl, Ho.out, Hb.out⟩
end Go.Proofs.X
