/-
  A part of a claim: lemmas and contracts of functions of the program; each theorem says what is proved, and its conditions.
-/
import Derived.Test.YthgdekcbagbbkaaSeenLaw
import Derived.Test.YthgdekcbagbbkaaPubPlate
import Derived.Test.YthgdekcbagbbkaaPubGlue
open Go Go.RowKit Go.Shelf
namespace Go.Proofs.X
theorem own_spot {w : World} {B : Nat} {e : TypeId} {size n c : Nat} {a : Option Addr} {xs : List Value} (h : w.ownsRow B e size (.slice a n c) n xs) : ∀ x, a = some x → x.spot = none := by
  intro x hx
  obtain ⟨_, _, e, _, _, _, h⟩ := own_slice h
  cases e
  obtain ⟨g, rfl, _⟩ := h x hx
  rfl
set_option maxRecDepth 100000 in
set_option maxHeartbeats 1000000 in
theorem seen_true (x0 x1 x2 x3 : Int) (w : World) (h0 : 0 ≤ x0) (h0' : x0 ≤ 255) (hx : ∀ x ∈ [x1, x2, x3], 0 ≤ x ∧ x ≤ 255) :
    Calls Try.prog 3 #[.agg #[.int .u8 x0, .int .u8 x1, .int .u8 x2, .int .u8 x3]] w (Ends true w) := by
  have P := fun w' => pubPlate_spec x0 x1 x2 x3 w' h0 h0' hx
  obtain ⟨W, hW⟩ : ∃ W : Nat, plateW x0 = (W : Int) := ⟨(plateW x0).toNat, by unfold plateW; omega⟩
  have hW3 : 3 ≤ (W : Int) := by rw [← hW]; unfold plateW; omega
  have hW8 : (W : Int) ≤ 8 := by rw [← hW]; unfold plateW; omega
  have hRl : (plateR x0 [x1, x2, x3]).length = 3 := rfl
  have hRb : ∀ r ∈ plateR x0 [x1, x2, x3], 0 ≤ r ∧ r < 2 ^ (W : Int).toNat := by
    intro r hr
    simp only [plateR, List.mem_map] at hr
    obtain ⟨x, _, rfl⟩ := hr
    have hp : (0 : Int) < 2 ^ (W : Int).toNat := by have := (pow2_bd (show (W : Int).toNat ≤ 8 by omega)).1; omega
    rw [hW]
    exact ⟨Int.emod_nonneg _ (by omega), Int.emod_lt_of_pos _ hp⟩
  rw [hW] at P
  generalize plateR x0 [x1, x2, x3] = R at *
  have HP := Lib.hid P
  have HR := Lib.hid hRb
  have HL := Lib.hid hRl
  have hok : okPlan W R := ⟨by omega, by omega, by omega, by omega, hRb⟩
  have hoj : okJob W ((3 : Nat) : Int) [R, R] := ⟨by omega, by omega, by omega, by omega, by simp, by simp, by intro r hr; simp at hr; subst hr; exact ⟨by omega, hRb⟩⟩
  have Hok := Lib.hid hok
  have Hoj := Lib.hid hoj
  clear P hRb hRl hx hok hoj hW h0 h0'
  go_enter Try.func3, Try.ntmps3
  go_wp2_with fail
  have b0 := below_alloc w (.cells #[.int .u8 x0, .int .u8 x1, .int .u8 x2, .int .u8 x3] 22)
  refine (HP.out _).mono ?_
  rintro e w1 ⟨v1, rfl, hown, hw1⟩
  obtain ⟨a1, c1, rfl, hs1⟩ := own_sl1 hown
  have hsp1 := own_spot hown
  have B1 := Lib.hid (below_tr b0 hw1)
  have S1 := Lib.hid hs1
  have SP1 := Lib.hid hsp1
  clear b0 hown hw1 hs1 hsp1 HP
  go_wp2_with fail
  refine (pubInts_spec a1 3 c1 R w1 S1.out SP1.out (by omega)).mono ?_
  rintro e w2 ⟨v2, rfl, hown, hw2⟩
  obtain ⟨a2, c2, rfl, hs2⟩ := own_sl1 hown
  have hsp2 := own_spot hown
  have B2 := Lib.hid (below_tr B1.out hw2)
  have S2 := Lib.hid hs2
  have SP2 := Lib.hid hsp2
  have S12 := Lib.hid (S1.out.below hw2)
  clear hown hw2 hs2 hsp2 S1 B1
  go_wp2_with fail
  have p0 : (w2.alloc (.cells #[.int .i64 W, .slice a2 3 c2] 28)).cell? ⟨w2.heap.size, 0, none⟩ = some (.int .i64 W) := by simp [go_sem]
  have p1 : (w2.alloc (.cells #[.int .i64 W, .slice a2 3 c2] 28)).cell? ⟨w2.heap.size, 1, none⟩ = some (.slice a2 3 c2) := by simp [go_sem]
  have b3 := below_alloc w2 (.cells #[.int .i64 W, .slice a2 3 c2] 28)
  refine (pubInts_spec a1 3 c1 R _ (S12.out.below b3) SP1.out (by omega)).mono ?_
  rintro e w4 ⟨v4, rfl, hown, hw4⟩
  obtain ⟨a4, c4, rfl, hs4⟩ := own_sl1 hown
  have p04 := cell_later p0 hw4
  have p14 := cell_later p1 hw4
  have b4 := below_tr b3 hw4
  have B4 := Lib.hid (below_tr B2.out b4)
  have S2' := Lib.hid (S2.out.below b4)
  have S1' := Lib.hid (S12.out.below b4)
  have S4 := Lib.hid hs4
  clear hown hw4 hs4 b3 b4 p0 p1 B2 S2 S12
  go_wp2_with fail
  refine (pubInts_spec a1 3 c1 R _ S1'.out SP1.out (by omega)).mono ?_
  rintro e w5 ⟨v5, rfl, hown, hw5⟩
  obtain ⟨a5, c5, rfl, hs5⟩ := own_sl1 hown
  have p05 := cell_later p04 hw5
  have p15 := cell_later p14 hw5
  have B5 := Lib.hid (below_tr B4.out hw5)
  have S25 := Lib.hid (S2'.out.below hw5)
  have S45 := Lib.hid (S4.out.below hw5)
  have S5 := Lib.hid hs5
  clear hown hw5 hs5 p04 p14 B4 S2' S1' S4
  go_wp2_with fail
  obtain ⟨w6, e6, z6, b6, s6⟩ := lit1 w5 w5.heap.size rfl [.slice a4 3 c4, .slice a5 3 c5] 2 23 rfl (by omega)
  obtain ⟨w7, e7, z7, b7, s7⟩ := litK 2 w6 _ z6.symm (shiftRows [(0, 0), (1, 0)]) #[.int .i64 0, .int .i64 0, .int .i64 1, .int .i64 0] rfl 2 37 rfl (by simp [shiftRows]) (by omega)
  rw [e6, e7]
  have r7 : Rows2 w7 [.slice a4 3 c4, .slice a5 3 c5] [R, R] := ((Rows2.empty _).cons (S5.out.below (below_tr b6 b7)) HL.out).cons (S45.out.below (below_tr b6 b7)) HL.out
  have s67 := s6.below b7
  have b67 := below_tr b6 b7
  have p07 := cell_later p05 b67
  have p17 := cell_later p15 b67
  have B7 := Lib.hid (below_tr B5.out b67)
  have S27 := Lib.hid (S25.out.below b67)
  clear e6 e7 z6 z7 b6 b7 b67 s6 S5 S45 S25 B5 p05 p15
  refine (print_Show W 3 _ 2 2 _ [R, R] _ 2 [(0, 0), (1, 0)] w7 Hoj.out s67 r7 s7 (by simp)).mono ?_
  rintro e w8 ⟨v8, rfl, hown, hw8⟩
  obtain ⟨a8, c8, rfl, hs8⟩ := own_sl1 hown
  have p08 := cell_later p07 hw8
  have p18 := cell_later p17 hw8
  have B8 := Lib.hid (below_tr B7.out hw8)
  have S28 := Lib.hid (S27.out.below hw8)
  have S8 := Lib.hid hs8
  have hc8 := hs8.cap
  have hc8b := hs8.big
  clear hown hw8 hs8 r7 s67 s7 p07 p17 S27 B7
  go_wp2_with fail
  go_loopg [8] 3 (fun g i wr => ∃ k : Nat, k ≤ 3 ∧ 3 - k ≤ g ∧ i = .int .i64 k ∧ Aside (Below w8.heap.size w8 wr))
  case atStart => exact ⟨0, by omega, by omega, rfl, Below.refl _ _⟩
  case round =>
    obtain ⟨wo, rfl⟩ : ∃ wo : World, wo = wr := ⟨_, rfl⟩
    obtain ⟨k, hk, hg, rfl, hA⟩ := hrel
    by_cases hlt : k < 3
    · have q0 := cell_later p08 hA.out
      have q1 := cell_later p18 hA.out
      obtain ⟨t, ht⟩ : ∃ t, R[k]? = some t := ⟨R[k]'(by rw [HL.out]; exact hlt), List.getElem?_eq_getElem _⟩
      obtain ⟨b, o, rfl, hb8, hcs⟩ := (S8.out.below hA.out).mem k (.string ⟨(textRow (sheetOf 3 (W : Int) [R, R] [(0, 0), (1, 0)] 2) (k : Int) 2 W).toArray⟩) (by simp [textTo, hlt])
      have T := Lib.hid ht
      clear ht
      obtain ⟨S, hS⟩ : ∃ S : ByteArray, S = ⟨(textRow (sheetOf 3 (W : Int) [R, R] [(0, 0), (1, 0)] 2) (k : Int) 2 W).toArray⟩ := ⟨_, rfl⟩
      rw [← hS] at hcs
      have hSl : S.size = W := by rw [hS]; simp [ByteArray.size, textRow]
      have HS := Lib.hid hS
      clear hS
      go_wp2_with fail
      obtain ⟨wp, ep, zp, bp, sp⟩ := litK 3 wo wo.heap.size rfl (causeRows [((k : Int), 3, 0)]) #[.int .i64 k, .int .i64 3, .int .i64 0] rfl 1 43 rfl (by simp [causeRows, causeRow]) (by omega)
      rw [ep]
      refine (glue_Box W a2 3 c2 R _ 1 1 [((k : Int), 3, 0)] 0 wp Hok.out (S28.out.below (below_tr hA.out bp)) SP2.out ⟨by simp, by intro x hx; simp at hx; subst hx; exact ⟨by omega, by show (k : Int) < 3; omega, by simp, by simp, by simp, by simp⟩, by intro x y h; simp at h⟩ sp (by omega) (by omega)).mono ?_
      rintro e w9 ⟨v9, rfl, hown, hw9⟩
      obtain ⟨a9, c9, rfl, hs9⟩ := own_sl1 hown
      have hlate : boxF W R [((k : Int), 3, 0)] 0 = R.set k (gvF W t 3 0) := by simp [boxF, boxStep, T.out]
      rw [hlate] at hs9
      have q09 := cell_later q0 (below_tr bp hw9)
      have q19 := cell_later q1 (below_tr bp hw9)
      have hc9 := cell_later hcs (below_tr bp hw9)
      have H9 := Lib.hid (below_tr hA.out (below_tr bp hw9))
      have hl9 := hs9.cap
      have hl9b := hs9.big
      have S9 := Lib.hid hs9
      clear ep zp bp sp hown hw9 hs9 hlate hcs q0 q1 hA hb8
      go_wp2_with fail
      obtain ⟨wp, ep, zp, bp, sp⟩ := litK 3 w9 w9.heap.size rfl (causeRows [((k : Int), 2, 0)]) #[.int .i64 k, .int .i64 2, .int .i64 0] rfl 1 43 rfl (by simp [causeRows, causeRow]) (by omega)
      rw [ep]
      refine (glue_Box W a2 3 c2 R _ 1 1 [((k : Int), 2, 0)] 0 wp Hok.out (S28.out.below (below_tr H9.out bp)) SP2.out ⟨by simp, by intro x hx; simp at hx; subst hx; exact ⟨by omega, by show (k : Int) < 3; omega, by simp, by simp, by simp, by simp⟩, by intro x y h; simp at h⟩ sp (by omega) (by omega)).mono ?_
      rintro e wa ⟨va, rfl, hown, hwa⟩
      obtain ⟨aa, ca, rfl, hsa⟩ := own_sl1 hown
      have hdrip : boxF W R [((k : Int), 2, 0)] 0 = R.set k (gvF W t 2 0) := by simp [boxF, boxStep, T.out]
      rw [hdrip] at hsa
      have hca := cell_later hc9 (below_tr bp hwa)
      have Ha := Lib.hid (below_tr H9.out (below_tr bp hwa))
      have hla := hsa.cap
      have hlab := hsa.big
      obtain ⟨ba, oa, rfl, hba, cga⟩ := hsa.mem k (.int .i64 (gvF W t 2 0)) (ints_get (by simp [HL.out, hlt]))
      obtain ⟨b9, o9, rfl, hb9, cg9⟩ := (S9.out.below (below_tr bp hwa)).mem k (.int .i64 (gvF W t 3 0)) (ints_get (by simp [HL.out, hlt]))
      clear ep zp bp sp hown hwa hsa hdrip hc9 q09 q19 H9 S9
      have hG2 := gvF_bd W t 2 0 (HR.out t (List.mem_of_getElem? T.out)).1 (by have := (HR.out t (List.mem_of_getElem? T.out)).2; have := (pow2_bd (show (W : Int).toNat ≤ 8 by omega)).2; omega) (by omega)
      have hG3 := gvF_bd W t 3 0 (HR.out t (List.mem_of_getElem? T.out)).1 (by have := (HR.out t (List.mem_of_getElem? T.out)).2; have := (pow2_bd (show (W : Int).toNat ≤ 8 by omega)).2; omega) (by omega)
      have hlaw : ∀ x : Int, 0 ≤ x → x < W → ∃ L : Nat, (∀ w, (Instr.index 9 (.string S) (.int .i64 x)).run Try.prog w = .ok (.int .u8 (48 + (L : Int))) w) ∧ L < 4 ∧ (L = 0 ↔ bitAt (gvF W t 2 0) x = 0) ∧ (L = 3 ↔ bitAt (gvF W t 3 0) x = 1) := by
        intro x hx0 hx1
        have ht := HR.out t (List.mem_of_getElem? T.out)
        refine ⟨lookTo (sheetOf 3 (W : Int) [R, R] [(0, 0), (1, 0)] 2) x k 2, fun w => ?_, ?_⟩
        · have hlk := (seen_bits W t x ht.1 ht.2 hx0 hx1 _ (look_two W R k t x T.out HL.out (fun r hr => HR.out r hr))).1
          rw [run_index_string _ _ _ _ _ Try.underlying9, dif_pos ⟨hx0, by rw [hSl]; exact hx1⟩, text_byte _ k W x hx0 hx1 hlk S HS.out]
        · exact seen_bits W t x ht.1 ht.2 hx0 hx1 _ (look_two W R k t x T.out HL.out (fun r hr => HR.out r hr))
      have HLaw := Lib.hid hlaw
      have b2a := Lib.hid (bit_val (gvF W t 2 0) · hG2.1 hG2.2)
      have b3a := Lib.hid (bit_val (gvF W t 3 0) · hG3.1 hG3.2)
      clear hlaw
      generalize gvF W t 2 0 = D at *
      generalize gvF W t 3 0 = E at *
      have d0 := hG2.1
      have d1 := hG3.1
      clear hG2 hG3
      go_wp2_with fail
      go_loopg [13] W (fun g i wr => ∃ x : Int, 0 ≤ x ∧ x ≤ W ∧ (W : Int) - x ≤ g ∧ i = .int .i64 x ∧ Aside (Below wa.heap.size wa wr))
      case atStart => exact ⟨0, by omega, by omega, by omega, rfl, Below.refl _ _⟩
      case round =>
        obtain ⟨wi, rfl⟩ : ∃ wi : World, wi = wr := ⟨_, rfl⟩
        obtain ⟨x, hx0, hxW, hgx, rfl, hI⟩ := hrel
        by_cases hltx : x < W
        · obtain ⟨L, hidx, hL4, hL0, hL3⟩ := HLaw.out x hx0 hltx
          have e2 := b2a.out x
          have e3 := b3a.out x
          have hB2 := bitAt_lt D x
          have hB3 := bitAt_lt E x
          have g1 := cell_later hca hI.out
          have g2 := cell_later cga hI.out
          have g3 := cell_later cg9 hI.out
          have hk0 : (0 : Int) ≤ (k : Int) := by omega
          have hk1 : (k : Int) < 3 := by omega
          generalize bitAt D x = B2' at *
          generalize bitAt E x = B3' at *
          have hcase : (L = 0 ∧ B2' = 0 ∧ B3' = 0) ∨ (L = 1 ∧ B2' = 1 ∧ B3' = 0) ∨ (L = 2 ∧ B2' = 1 ∧ B3' = 0) ∨ (L = 3 ∧ B2' = 1 ∧ B3' = 1) := by omega
          clear hL0 hL3 hL4 hB2 hB3
          rcases hcase with ⟨rfl, rfl, rfl⟩ | ⟨rfl, rfl, rfl⟩ | ⟨rfl, rfl, rfl⟩ | ⟨rfl, rfl, rfl⟩
          · replace hidx : ∀ w, (Instr.index 9 (.string S) (.int .i64 x)).run Try.prog w = .ok (.int .u8 48) w := hidx
            replace e2 : bits BinOp.and IntKind.i64 (D / 2 ^ x.toNat) 1 = 0 := e2
            replace e3 : bits BinOp.and IntKind.i64 (E / 2 ^ x.toNat) 1 = 0 := e3
            go_wp2_with fail
            go_quiet (fail)
            go_wp2
            go_roundg ((W : Int) - (x + 1)).toNat
            case measure => omega
            case rel => exact ⟨x + 1, by omega, by omega, by omega, by go_num, below_tr hI.out (below_dr _ _)⟩
          · replace hidx : ∀ w, (Instr.index 9 (.string S) (.int .i64 x)).run Try.prog w = .ok (.int .u8 49) w := hidx
            replace e2 : bits BinOp.and IntKind.i64 (D / 2 ^ x.toNat) 1 = 1 := e2
            replace e3 : bits BinOp.and IntKind.i64 (E / 2 ^ x.toNat) 1 = 0 := e3
            go_wp2_with fail
            go_quiet (fail)
            go_wp2
            go_roundg ((W : Int) - (x + 1)).toNat
            case measure => omega
            case rel => exact ⟨x + 1, by omega, by omega, by omega, by go_num, below_tr hI.out (below_dr _ _)⟩
          · replace hidx : ∀ w, (Instr.index 9 (.string S) (.int .i64 x)).run Try.prog w = .ok (.int .u8 50) w := hidx
            replace e2 : bits BinOp.and IntKind.i64 (D / 2 ^ x.toNat) 1 = 1 := e2
            replace e3 : bits BinOp.and IntKind.i64 (E / 2 ^ x.toNat) 1 = 0 := e3
            go_wp2_with fail
            go_quiet (fail)
            go_wp2
            go_roundg ((W : Int) - (x + 1)).toNat
            case measure => omega
            case rel => exact ⟨x + 1, by omega, by omega, by omega, by go_num, below_tr hI.out (below_dr _ _)⟩
          · replace hidx : ∀ w, (Instr.index 9 (.string S) (.int .i64 x)).run Try.prog w = .ok (.int .u8 51) w := hidx
            replace e2 : bits BinOp.and IntKind.i64 (D / 2 ^ x.toNat) 1 = 1 := e2
            replace e3 : bits BinOp.and IntKind.i64 (E / 2 ^ x.toNat) 1 = 1 := e3
            go_wp2_with fail
            go_quiet (fail)
            go_wp2
            go_roundg ((W : Int) - (x + 1)).toNat
            case measure => omega
            case rel => exact ⟨x + 1, by omega, by omega, by omega, by go_num, below_tr hI.out (below_dr _ _)⟩
        · go_wp2
          go_roundg (3 - (k + 1))
          case measure => omega
          case rel => exact ⟨k + 1, by omega, by omega, by go_num, below_tr Ha.out hI.out⟩
    · have hk' : k = 3 := by omega
      subst hk'
      have BO := Lib.hid (below_tr B8.out hA.out)
      clear hA
      go_wp2_with fail
      refine (pubPrint_true _).mono ?_
      rintro e wx ⟨rfl, hwx⟩
      have BX := Lib.hid (below_tr BO.out hwx)
      clear hwx
      go_wp2_with fail
      refine (pubGlue_true _).mono ?_
      rintro e wy ⟨rfl, hwy⟩
      go_wp2
      go_ret
      exact ⟨rfl, below_tr BX.out hwy⟩
end Go.Proofs.X
