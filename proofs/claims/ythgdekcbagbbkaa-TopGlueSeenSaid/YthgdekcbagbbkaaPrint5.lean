/-
  A part of a claim: lemmas and contracts of functions of the program; each theorem says what is proved, and its conditions.
-/
import Derived.Test.YthgdekcbagbbkaaPrint4
open Go Go.RowKit
namespace Go.Proofs.X
/-- a row of text -/
def textRow (sh : List (List Int)) (y : Int) (n k : Nat) : List UInt8 := (List.range k).map fun (x : Nat) => UInt8.ofNat (48 + lookTo sh (x : Int) y n)
def textTo (sh : List (List Int)) (W n : Nat) (k : Nat) : List Value := (List.range k).map fun (y : Nat) => Value.string ⟨(textRow sh (y : Int) n W).toArray⟩
def bvals (l : List Nat) : List Value := l.map fun (b : Nat) => Value.int .u8 (b : Int)
def bytesTo (sh : List (List Int)) (y : Int) (n W : Nat) : Nat → List Nat
  | 0 => List.replicate W 0
  | j + 1 => (bytesTo sh y n W j).set j (48 + lookTo sh (j : Int) y n)
theorem bytesTo_len (sh y n W j) : (bytesTo sh y n W j).length = W := by
  induction j with
  | zero => simp [bytesTo]
  | succ j ih => simp [bytesTo, ih]
theorem bytesTo_get (sh y n W) : ∀ j x, x < W → (bytesTo sh y n W j)[x]? = some (if x < j then 48 + lookTo sh (x : Int) y n else 0)
  | 0, x, h => by simp [bytesTo, h]
  | j + 1, x, h => by
    simp only [bytesTo]
    by_cases e : j = x
    · subst e
      rw [List.getElem?_set_self (by rw [bytesTo_len]; exact h), if_pos (by omega)]
    · rw [List.getElem?_set_ne e, bytesTo_get sh y n W j x h]
      by_cases hx : x < j
      · rw [if_pos hx, if_pos (by omega)]
      · rw [if_neg hx, if_neg (by omega)]
theorem bytesTo_full (sh y n W) : bytesTo sh y n W W = (List.range W).map fun (x : Nat) => 48 + lookTo sh (x : Int) y n := by
  apply List.ext_getElem?
  intro x
  by_cases hx : x < W
  · rw [bytesTo_get sh y n W W x hx, if_pos hx]; simp [hx]
  · rw [List.getElem?_eq_none (by rw [bytesTo_len]; omega), List.getElem?_eq_none (by simp; omega)]
theorem bvals_set (l : List Nat) (j b : Nat) : (bvals l).set j (.int .u8 (b : Int)) = bvals (l.set j b) := by simp [bvals, List.map_set]
theorem push_fold (l : List Nat) : ∀ (s : ByteArray), ((l.map fun (b : Nat) => (b : Int)).foldl (fun r n => r.push (UInt8.ofNat n.toNat)) s) = ⟨s.data ++ (l.map UInt8.ofNat).toArray⟩ := by
  induction l with
  | nil => intro s; simp
  | cons b l ih =>
    intro s
    simp only [List.map_cons, List.foldl_cons]
    rw [ih]
    simp [ByteArray.push]
theorem conv_bytes {P : Program} (src dst e : TypeId) (hs : P.underlying src = some (.slice e)) (he : P.underlying e = some (.int .u8)) (hd : P.underlying dst = some .string) (w : World) (b o n c : Nat) (l : List Nat) (hl : l.length = n)
    (h : ∀ (j : Nat) (v : Value), (bvals l)[j]? = some v → w.cell? ⟨b, o + j, none⟩ = some v) :
    (convert src dst (.slice (some ⟨b, o, none⟩) n c)).run P w = .ok (.string ⟨(l.map UInt8.ofNat).toArray⟩) w := by
  rw [run_convert_bytes_string w src dst e _ _ _ hs he hd]
  rw [run_bytesToString w ⟨b, o, none⟩ n c (l.map fun (b : Nat) => (b : Int)) ?_]
  · rw [push_fold]; simp
  · have := run_loadCells_list (P := P) (w := w) ⟨b, o, none⟩ (bvals l) (fun j v hj => by rw [Addr.add_lit]; exact h j v hj)
    rw [show (bvals l).length = n by simp [bvals, hl]] at this
    rw [this]
    simp [bvals, Function.comp_def]
theorem info_byte : (Try.prog.info? 5).map (fun i => (i.zero, i.size, i.bytes)) = some (some (.int .u8 0), 1, 1) := by kernel_rfl
theorem info_string : (Try.prog.info? 9).map (fun i => (i.zero, i.size, i.bytes)) = some (some (.string ⟨#[]⟩), 1, 16) := by kernel_rfl
set_option maxRecDepth 100000 in
theorem print_text (W H : Nat) (ap : Option Addr) (np cp : Nat) (a : Option Addr) (n c : Nat) (vs : List Value) (sh : List (List Int)) (w : World) (w1 : (1 : Int) ≤ W) (w2 : (W : Int) ≤ 10) (h1 : (1 : Int) ≤ H) (h2 : (H : Int) ≤ 6) (hs : Sl1 w a n c vs) (hr : Rows2 w vs sh) (hn : (n : Int) ≤ 3) (hrow : ∀ r ∈ sh, r.length = H ∧ ∀ z ∈ r, 0 ≤ z ∧ z < 1024) :
    Calls Try.prog 15 #[.agg #[.int .i64 W, .int .i64 H, .slice ap np cp], .slice a n c] w fun e w' => ∃ v, e = .returned v ∧ w'.ownsRow w.heap.size 9 1 v H (textTo sh W n H) ∧ Below w.heap.size w w' := by
  have Hs := Lib.hid hs
  have Hr := Lib.hid hr
  have Hrow := Lib.hid hrow
  clear hs hr hrow
  obtain ⟨i0, hi, hz0, hz1, hz2⟩ := info_parts info_byte
  obtain ⟨i1, hi1, hz01, hz11, hz21⟩ := info_parts info_string
  have h0 := below_alloc w (.cells #[.int .i64 W, .int .i64 H, .slice ap np cp] 49)
  go_enter Try.func15, Try.ntmps15
  go_wp2
  have p0 : (w.alloc (.cells #[.int .i64 W, .int .i64 H, .slice ap np cp] 49)).cell? ⟨w.heap.size, 0, none⟩ = some (.int .i64 W) := by simp [go_sem]
  have hsz : w.heap.size < (w.alloc (.cells #[.int .i64 W, .int .i64 H, .slice ap np cp] 49)).heap.size := by simp
  generalize w.alloc (.cells #[.int .i64 W, .int .i64 H, .slice ap np cp] 49) = W0 at *
  go_loopg [4, 11] H (fun g o i wr => ∃ k : Nat, k ≤ H ∧ H - k ≤ g ∧ i = .int .i64 k ∧ wr.cell? ⟨w.heap.size, 0, none⟩ = some (.int .i64 W) ∧ Aside (wr.ownsRow W0.heap.size 9 1 o k (textTo sh W n k) ∧ Below W0.heap.size W0 wr))
  case atStart => exact ⟨0, by omega, by omega, rfl, p0, World.ownsRow_nil _ _ _ _, Below.refl _ _⟩
  case round =>
    obtain ⟨k, hk, hg, rfl, q0, hA⟩ := hrel
    clear p0
    obtain ⟨wo, rfl⟩ : ∃ wo : World, wo = wr := ⟨_, rfl⟩
    by_cases hlt : k < H
    · go_wp2_with (at_make; refine wpList_make_full _ rfl _ _ 74 rfl wo.heap.size 5 i0 _ 1 Try.underlying74 hi hz0 hz1 .i64 .i64 _ _ W rfl rfl rfl rfl (by rw [hz2]; omega) (by unfold maxLen; omega) (Nat.le_refl _) ?_; intro w3 hown hgr)
      have hown2 : w3.ownsRow wo.heap.size 5 1 (.slice (some ⟨wo.heap.size, 0, none⟩) W W) W (bvals (bytesTo sh (k : Int) n W 0)) := by
        have e : (madeCells (Value.int IntKind.u8 0).cells (W * 1)).toList = bvals (bytesTo sh (k : Int) n W 0) := by
          simp only [Value.cells, Nat.mul_one, toList_madeCells_one]; simp [bvals, bytesTo]
        rw [← e]; exact hown
      have hb3 : Below wo.heap.size wo w3 := grown_below hgr (Nat.le_refl _) (by simp)
      have H3 := Lib.hid (And.intro hown2 hb3)
      clear hown hown2 hb3 hgr
      go_loopg [20] W (fun g i wi => ∃ j : Nat, j ≤ W ∧ W - j ≤ g ∧ i = .int .i64 j ∧ Aside (wi.ownsRow wo.heap.size 5 1 (.slice (some ⟨wo.heap.size, 0, none⟩) W W) W (bvals (bytesTo sh (k : Int) n W j)) ∧ Below wo.heap.size wo wi))
      case atStart => exact ⟨0, by omega, by omega, rfl, H3.out⟩
      case round =>
        obtain ⟨j, hj, hg2, rfl, hB⟩ := hrel
        by_cases hlt2 : j < W
        · have hb0 := below_tr hA.out.2 (hB.out.2.mono (Nat.le_refl _))
          have hbw := h0.trans (hb0.mono h0.size)
          have hL := lookTo_lt sh (j : Int) (k : Int) n
          have h3 : 2 ^ n ≤ 2 ^ 3 := Nat.pow_le_pow_right (by omega) (by omega)
          have M := print_look a n c vs sh (j : Int) (k : Int) H wr (Hs.out.below hbw) (Hr.out.below hbw) hn (by omega) (by omega) (by omega) (by omega) Hrow.out
          have hB1 := Lib.hid hB.out
          have hL8 : (lookTo sh (j : Int) (k : Int) n : Int) < 8 := by omega
          generalize hLk : lookTo sh (j : Int) (k : Int) n = L at *
          have HLk := Lib.hid hLk
          have M1 := Lib.hid M
          clear hb0 hbw hL h3 M hB hLk
          go_wp2_with fail
          refine M1.out.mono ?_
          rintro e w5 ⟨rfl, hw5⟩
          have ho5 := own_below hB1.out.1 hw5
          have hf5 := ho5.frozenAt j
          have hc5 : ∃ u, w5.cell? ⟨wo.heap.size, j, none⟩ = some u := by
            rw [ho5.cellAt j (by omega)]
            exact ⟨_, List.getElem?_eq_getElem (by simp [bvals, bytesTo_len]; omega)⟩
          obtain ⟨u5, hu5⟩ := hc5
          have Ho5 := Lib.hid ho5
          have Hw5 := Lib.hid hw5
          clear ho5 hw5
          go_wp2_with fail
          go_roundg (W - (j + 1))
          case measure => omega
          case rel =>
            refine ⟨j + 1, by omega, by omega, by go_num, ?_, ?_⟩
            · have := (Ho5.out.stored j (.int .u8 ((48 + L : Nat) : Int))).1
              rw [bvals_set] at this
              simp only [bytesTo, HLk.out]
              exact this
            · exact (hB1.out.2.trans (Hw5.out.mono (hB1.out.2.size))).setCell (Nat.le_refl _) _
        · have hjW : j = W := by omega
          subst hjW
          have hcv := conv_bytes (P := Try.prog) 74 9 5 Try.underlying74 Try.underlying5 Try.underlying9 wr wo.heap.size 0 j j (bytesTo sh (k : Int) n j j) (bytesTo_len _ _ _ _ _) (fun x v hx => by simpa using own_cell hB.out.1 hx)
          rw [show (bytesTo sh (k : Int) n j j).map UInt8.ofNat = textRow sh (k : Int) n j by rw [bytesTo_full]; simp [textRow, Function.comp_def]] at hcv
          obtain ⟨str, hstr⟩ : ∃ str : ByteArray, str = ⟨(textRow sh (k : Int) n j).toArray⟩ := ⟨_, rfl⟩
          rw [← hstr] at hcv
          have Hstr := Lib.hid hstr
          have hb1 := below_tr hA.out.2 hB.out.2
          have ho1 := own_below hA.out.1 hB.out.2
          have Hb := Lib.hid (And.intro hb1 ho1)
          have q2 := cell_later q0 hB.out.2
          clear hstr hb1 ho1
          go_wp2_with (at_builtin; refine append_lit rfl _ _ 29 rfl W0.heap.size 9 i1 _ 1 16 Try.underlying29 hi1 hz01 hz11 hz21 rfl (by omega) _ _ _ rfl Hb.out.2 [.string str] 1 _ rfl rfl rfl (by simp [Value.oneCell']) (by omega) (by omega) Hb.out.1.size ?_; intro v' w' ho hg' hb')
          go_roundg (H - (k + 1))
          case measure => omega
          case rel =>
            refine ⟨k + 1, by omega, by omega, by go_num, ?_, ?_, Hb.out.1.trans hb'⟩
            · rw [hb'.cell (p := ⟨w.heap.size, 0, none⟩) hsz]; exact q2
            · have : textTo sh j n (k + 1) = textTo sh j n k ++ [.string str] := by
                rw [Hstr.out]; simp [textTo, List.range_succ]
              rw [this]; exact ho
    · have hkH : k = H := by omega
      subst hkH
      go_wp2
      go_ret
      exact ⟨_, rfl, own_mono hA.out.1 h0.size, h0.trans (hA.out.2.mono h0.size)⟩
end Go.Proofs.X
