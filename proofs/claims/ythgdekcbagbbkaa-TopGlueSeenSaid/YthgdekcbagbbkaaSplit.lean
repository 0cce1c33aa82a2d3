/-
  A part of a claim: lemmas and contracts of functions of the program; each theorem says what is proved, and its conditions.
-/
import Derived.StillTail
import Derived.OrdersHeld
import Derived.Deep.RegionHeld
open Go
namespace Go.Proofs.X
section
variable {P : Program} {ops l : Array Oper} {Q : Exit → Act → World → Prop} {md : Region.Mode}
theorem wpAny_fuel : ∀ (g k : Nat) (listed : Array Bool) (a : Act) (w : World), wpAny P md ops Q g listed a w → wpAny P md ops Q (g + k) listed a w
  | 0, 0, _, _, _, h => h
  | 0, k + 1, _, _, _, h => by
    rw [Nat.zero_add]
    exact ⟨fun _ => h.2, fun i hi => by rw [h.1] at hi; cases hi⟩
  | g + 1, k, _, _, _, h => by
    rw [show g + 1 + k = (g + k) + 1 by omega]
    exact ⟨h.1, fun i hi => wpOp_mono (fun a w h => wpAny_fuel g k _ a w h) (h.2 i hi)⟩
/-- the head's own conditions -/
def headOk (md : Region.Mode) (ops l : Array Oper) (n : Nat) : Bool :=
  (List.range n).all fun i => match ops[i]? with
    | some o => (o.after.all fun e => !Region.binds md e || decide (e.on < i)) && (match o.guard with | none => true | some (j, _) => decide (j < n))
    | none => false
theorem headOk_spec {n : Nat} (h : headOk md ops l n = true) {i : Nat} (hi : i < n) : ∃ o, ops[i]? = some o ∧ (∀ e ∈ o.after, Region.binds md e = true → e.on < i) ∧ ∀ j b, o.guard = some (j, b) → j < n := by
  have h1 := List.all_eq_true.1 h i (List.mem_range.2 hi)
  cases ho : ops[i]? with
  | none => simp [ho] at h1
  | some o =>
    simp only [ho, Bool.and_eq_true] at h1
    refine ⟨o, rfl, fun e he hb => ?_, fun j b hg => ?_⟩
    · have := Array.all_eq_true'.1 h1.1 e he
      simpa [hb] using this
    · simpa [hg] using h1.2
theorem split_any {n g : Nat} (hn : n < ops.size) (hg : n + g = ops.size) (hl : ∀ i, i < n → l[i]? = ops[i]?) (hls : l.size = n)
    (hs : Region.sinkB md ops n = true) (hc : Region.chainB md ops n = true) (hh : headOk md ops l n = true)
    (hseq : Region.seqB md ops g n (Array.replicate n true ++ Array.replicate g false) = true) (t : List Oper) (ht : ∀ j, t[j]? = ops[n + j]?) (htl : t.length = g) :
    ∀ (f : Nat) (listed : Array Bool) (a : Act) (w : World), HeadInv md ops n listed → wpAny P md l (Exit.then (wpList P ops Q t) Q) f (listed.extract 0 n) a w → wpAny P md ops Q (f + g) listed a w := by
  have hex : ∀ (listed : Array Bool) (i : Nat) (d : Bool), i < n → listed.size = ops.size → (listed.extract 0 n).getD i d = listed.getD i d := by
    intro listed i d hi hz
    have h1 : i < listed.size := by omega
    simp only [Array.getD_eq_getD_getElem?, Array.getElem?_extract]
    rw [if_pos (by omega)]
    simp
  have hmem : ∀ (listed : Array Bool) (i : Nat), HeadInv md ops n listed → i < n → (i ∈ Region.ready md l (listed.extract 0 n) ↔ i ∈ Region.ready md ops listed) := by
    intro listed i inv hi
    obtain ⟨o, ho, hon, _⟩ := headOk_spec hh hi
    rw [mem_ready, mem_ready, hl i hi, hex _ _ _ hi inv.size]
    refine and_congr Iff.rfl ?_
    constructor
    · rintro ⟨o', ho', h⟩
      refine ⟨o', ho', fun e he hb => ?_⟩
      have : o' = o := Option.some.inj (ho'.symm.trans ho)
      subst this
      have := h e he hb
      rwa [hex _ _ _ (by have := hon e he hb; omega) inv.size] at this
    · rintro ⟨o', ho', h⟩
      refine ⟨o', ho', fun e he hb => ?_⟩
      have : o' = o := Option.some.inj (ho'.symm.trans ho)
      subst this
      rw [hex _ _ _ (by have := hon e he hb; omega) inv.size]
      exact h e he hb
  have hall : ∀ (listed : Array Bool), HeadInv md ops n listed → Region.ready md l (listed.extract 0 n) = [] → ∀ i, i < n → listed.getD i true = true := by
    intro listed inv hr i
    induction i using Nat.strongRecOn with
    | _ i ih =>
      intro hi
      cases hx : listed.getD i true with
      | true => rfl
      | false =>
        exfalso
        obtain ⟨o, ho, hon, _⟩ := headOk_spec hh hi
        have : i ∈ Region.ready md l (listed.extract 0 n) := by
          rw [hmem _ _ inv hi, mem_ready]
          refine ⟨hx, o, ho, fun e he hb => ?_⟩
          have h2 := hon e he hb
          have h3 := ih e.on h2 (by omega)
          have h4 : e.on < listed.size := by rw [inv.size]; omega
          simp [Array.getD, h4] at h3 ⊢
          exact h3
        rw [hr] at this; cases this
  have hend : ∀ (listed : Array Bool) (a : Act) (w : World), HeadInv md ops n listed → Region.ready md l (listed.extract 0 n) = [] → wpList P ops Q t a w → wpAny P md ops Q g listed a w := by
    intro listed a w inv hr hw
    have hlist : listed = Array.replicate n true ++ Array.replicate g false := by
      apply Array.ext
      · simp [inv.size, hg]
      · intro i h1 h2
        by_cases hi : i < n
        · have := hall listed inv hr i hi
          simp [Array.getD, h1] at this
          simp [Array.getElem_append, hi, this]
        · have := inv.tail i (by omega) (by rw [← inv.size]; exact h1)
          simp [Array.getD, h1] at this
          simp [Array.getElem_append, hi, this]
    have := wpAny_of_seq (P := P) (md := md) (ops := ops) (Q' := Q) t n listed a w ht (by rw [htl, hlist]; exact hseq) hw
    rwa [htl] at this
  intro f
  induction f with
  | zero =>
    intro listed a w inv h
    rw [Nat.zero_add]
    exact hend listed a w inv h.1 h.2
  | succ f ih =>
    intro listed a w inv h
    by_cases hr : Region.ready md l (listed.extract 0 n) = []
    · rw [Nat.add_comm]
      exact wpAny_fuel _ _ _ _ _ (hend listed a w inv hr (h.1 hr))
    · obtain ⟨i0, hi0⟩ := List.exists_mem_of_ne_nil _ hr
      have hi0n : i0 < n := by
        obtain ⟨_, o, ho, _⟩ := mem_ready.1 hi0
        have := (Array.getElem?_eq_some_iff.1 ho).1
        omega
      have hun : listed.getD i0 true = false := by
        have := (mem_ready.1 hi0).1
        rwa [hex _ _ _ hi0n inv.size] at this
      have htail := tail_waits hs hc hn inv (n - i0) i0 rfl hi0n hun
      rw [show f + 1 + g = (f + g) + 1 by omega]
      refine ⟨fun h0 => ?_, fun i hi => ?_⟩
      · have := (hmem _ _ inv hi0n).1 hi0
        rw [h0] at this; cases this
      · have hin : i < n := by
          rcases Nat.lt_or_ge i n with h1 | h1
          · exact h1
          · exact absurd hi (htail i h1)
        have hiL := (hmem _ _ inv hin).2 hi
        have hw := h.2 i hiL
        obtain ⟨o, ho, _, hgd⟩ := headOk_spec hh hin
        have hset : (listed.extract 0 n).setIfInBounds i true = (listed.setIfInBounds i true).extract 0 n := by
          apply Array.ext_getElem?
          intro j
          have hsz := inv.size
          by_cases hij : i = j
          · subst hij
            have h1 : i < listed.size := by omega
            simp [Array.getElem?_setIfInBounds, Array.getElem?_extract, hin, h1]
            try omega
          · simp [Array.getElem?_setIfInBounds, Array.getElem?_extract, hij]
        have hwant : Region.wanted o (yielded l a.tmps) = Region.wanted o (yielded ops a.tmps) := by
          unfold Region.wanted
          cases hgo : o.guard with
          | none => rfl
          | some jb =>
            obtain ⟨j, b⟩ := jb
            have hj := hgd j b hgo
            simp only [yielded, hl j hj]
        unfold wpOp at hw ⊢
        rw [hl i hin, ho] at hw
        rw [ho]
        simp only at hw ⊢
        rw [hwant] at hw
        rw [hset] at hw
        split
        · rename_i hwt
          rw [if_pos hwt] at hw
          refine hw.imp (fun h' => ?_) id
          exact Oper.wp_mono (fun a' w' h'' => ih _ a' w' (inv.set hi hin) h'') h'
        · rename_i hwt
          rw [if_neg hwt] at hw
          exact ih _ _ _ (inv.set hi hin) hw
end
/-- an order in which a region may be gone through: 'true': an operation that yields its value in every world that meets S -/
def ordOk (md : Region.Mode) (ops : Array Oper) : List (Nat × Bool) → Array Bool → Bool
  | [], listed => (Region.ready md ops listed).isEmpty
  | (i, true) :: r, listed => (Region.ready md ops listed).contains i && Region.free md ops listed i && ordOk md ops r (listed.setIfInBounds i true)
  | (i, false) :: r, listed => decide (Region.ready md ops listed = [i]) && ordOk md ops r (listed.setIfInBounds i true)
def wpOrd (P : Program) (ops : Array Oper) (Q : Exit → Act → World → Prop) (S : World → Prop) : List (Nat × Bool) → Act → World → Prop
  | [], a, w => Q .normal a w
  | (i, true) :: r, a, w => ∃ o v, ops[i]? = some o ∧ YieldsIf P ops S o v a ∧ (∀ c a' w', Q (.panic c) (a'.put o.dst v) w' → Q (.panic c) a' w') ∧ wpOrd P ops Q S r (a.put o.dst v) w
  | (i, false) :: r, a, w => wpOp P ops Q i (fun a' w' => S w' ∧ wpOrd P ops Q S r a' w') a w
theorem wpAnyH_ord {P : Program} {ops : Array Oper} {Q : Exit → Act → World → Prop} {S : World → Prop} {md : Region.Mode} (hs : Region.noSelect ops = true) :
    ∀ (ord : List (Nat × Bool)) (listed : Array Bool) (a : Act) (w : World), ordOk md ops ord listed = true → S w → wpOrd P ops Q S ord a w → wpAnyH P md ops Q S ord.length listed a w
  | [], listed, a, w, ho, _, h => wpAnyH_done (by simpa [ordOk] using ho) h 0
  | (i, true) :: r, listed, a, w, ho, hS, h => by
    simp only [ordOk, Bool.and_eq_true] at ho
    obtain ⟨⟨h1, h2⟩, h3⟩ := ho
    obtain ⟨o, v, hi, hy, hQ, hr⟩ := h
    exact wpAnyH_take hi hs h2 h1 (fun c a' w' => hQ c _ w') hy hS (wpAnyH_ord hs r _ _ _ h3 hS hr)
  | (i, false) :: r, listed, a, w, ho, hS, h => by
    simp only [ordOk, Bool.and_eq_true, decide_eq_true_eq] at ho
    obtain ⟨h1, h3⟩ := ho
    refine wpAnyH_all h1 (by simp) fun j hj => ?_
    have : j = i := by simpa using hj
    subst this
    exact wpOp_mono (fun a' w' h' => ⟨h'.1, wpAnyH_ord hs r _ _ _ h3 h'.1 h'.2⟩) h
theorem ord_a {P : Program} {ops : Array Oper} {Q : Exit → Act → World → Prop} {S : World → Prop} {i : Nat} {r : List (Nat × Bool)} {a : Act} {w : World} {o : Oper} {v : Value} (ho : ops[i]? = some o)
    (hw : Region.wanted o (yielded ops a.tmps) = true) (hv : ∀ w, S w → (execOp a.eval o).run P w = .ok (.value v) w) (hQ : ∀ c a' w', Q (.panic c) (a'.put o.dst v) w' → Q (.panic c) a' w')
    (h : wpOrd P ops Q S r (a.put o.dst v) w) : wpOrd P ops Q S ((i, true) :: r) a w := ⟨o, v, ho, .inl ⟨hw, hv⟩, hQ, h⟩
theorem ord_no {P : Program} {ops : Array Oper} {Q : Exit → Act → World → Prop} {S : World → Prop} {i : Nat} {r : List (Nat × Bool)} {a : Act} {w : World} {o : Oper} (ho : ops[i]? = some o)
    (hw : Region.wanted o (yielded ops a.tmps) = false) (hQ : ∀ c a' w', Q (.panic c) (a'.put o.dst undef) w' → Q (.panic c) a' w')
    (h : wpOrd P ops Q S r (a.put o.dst undef) w) : wpOrd P ops Q S ((i, true) :: r) a w := ⟨o, undef, ho, .inr ⟨hw, rfl⟩, hQ, h⟩
theorem ord_b {P : Program} {ops : Array Oper} {Q : Exit → Act → World → Prop} {S : World → Prop} {i : Nat} {r : List (Nat × Bool)} {a : Act} {w : World} {o : Oper} (ho : ops[i]? = some o)
    (h : ∀ K : Act → World → Prop, Shut (∀ a w, S w → wpOrd P ops Q S r a w → K a w) → if Region.wanted o (yielded ops a.tmps) = true then o.wp P a w K Q else K (a.put o.dst undef) w) :
    wpOrd P ops Q S ((i, false) :: r) a w := by
  show wpOp P ops Q i _ a w
  unfold wpOp
  simp only [ho]
  have := h _ (fun a w h1 h2 => And.intro h1 h2)
  split
  · rename_i hw; rw [if_pos hw] at this; exact .inl this
  · rename_i hw; rw [if_neg hw] at this; exact this
theorem ord_nil {P : Program} {ops : Array Oper} {Q : Exit → Act → World → Prop} {S : World → Prop} {a : Act} {w : World} (h : Q .normal a w) : wpOrd P ops Q S [] a w := h
/-- a region that draws: its last operations, which wait for all the others, by themselves -/
theorem region_split {P : Program} {id : Nat} {l t : List Oper} {n g : Nat} {Q : Exit → Act → World → Prop} {a : Act} {w : World} (hm : P.follows .mixedOrders = true)
    (hl : l.length = n) (htg : t.length = g) (hg : 0 < g)
    (hB : (Region.sinkB .any (l ++ t).toArray n && Region.chainB .any (l ++ t).toArray n && headOk .any (l ++ t).toArray l.toArray n && Region.seqB .any (l ++ t).toArray g n (Array.replicate n true ++ Array.replicate g false)) = true)
    (h : wpAny P .any l.toArray (Exit.then (wpList P (l ++ t).toArray Q t) Q) n (Array.replicate n false) a { w with drawn := w.drawn + 1 }) :
    (Code.region id (l ++ t).toArray true).wp P Q a w := by
  simp only [Bool.and_eq_true] at hB
  obtain ⟨⟨⟨hs, hc⟩, hh⟩, hseq⟩ := hB
  refine wp_region_any hm ?_
  have hsz : (l ++ t).toArray.size = n + g := by simp [hl, htg]
  rw [hsz]
  refine split_any (l := l.toArray) (t := t) (by omega) hsz.symm (fun i hi => ?_) (by simpa using hl) hs hc hh hseq (fun j => ?_) htg n _ a _ ⟨by simp [hsz], fun j oj _ hl => (by rw [getD_replicate_false] at hl; cases hl), fun t' _ ht => getD_in (by simpa using by omega) (getD_replicate_false _ _)⟩ ?_
  · simp [List.getElem?_append_left, hl, hi]
  · simp [List.getElem?_append_right, hl]
  · rw [show (Array.replicate (n + g) false).extract 0 n = Array.replicate n false by simp]
    exact h
/-- a region that draws, in an order of ours; t: the last operations, which wait for all the others -/
theorem region_ord {P : Program} {id : Nat} {l t : List Oper} {Q : Exit → Act → World → Prop} {a : Act} {w : World} (n g : Nat) (ord : List (Nat × Bool)) (S : World → Prop) (hm : P.follows .mixedOrders = true)
    (hl : l.length = n) (htg : t.length = g) (hg : 0 < g) (hol : ord.length = n)
    (hB : (Region.sinkB .any (l ++ t).toArray n && Region.chainB .any (l ++ t).toArray n && headOk .any (l ++ t).toArray l.toArray n && Region.seqB .any (l ++ t).toArray g n (Array.replicate n true ++ Array.replicate g false) && Region.noSelect l.toArray && ordOk .any l.toArray ord (Array.replicate n false)) = true)
    (hS : S w.drew) (h : wpOrd P l.toArray (Exit.then (wpList P (l ++ t).toArray Q t) Q) S ord a w.drew) :
    (Code.region id (l ++ t).toArray true).wp P Q a w := by
  simp only [Bool.and_eq_true] at hB
  obtain ⟨⟨hB, hs⟩, ho⟩ := hB
  refine region_split hm hl htg hg (by simpa using hB) ?_
  have := wpAnyH_ord (P := P) (Q := Exit.then (wpList P (l ++ t).toArray Q t) Q) hs ord (Array.replicate n false) a w.drew ho hS h
  rw [hol] at this
  exact wpAny_of_held _ _ _ _ this
/-- the same without such last operations -/
theorem region_ord0 {P : Program} {id : Nat} {l : List Oper} {Q : Exit → Act → World → Prop} {a : Act} {w : World} (ord : List (Nat × Bool)) (S : World → Prop) (hm : P.follows .mixedOrders = true)
    (hol : ord.length = l.length) (hB : (Region.noSelect l.toArray && ordOk .any l.toArray ord (Array.replicate l.length false)) = true)
    (hS : S w.drew) (h : wpOrd P l.toArray Q S ord a w.drew) : (Code.region id l.toArray true).wp P Q a w := by
  simp only [Bool.and_eq_true] at hB
  have := wpAnyH_ord (P := P) (Q := Q) hB.1 ord (Array.replicate l.length false) a w.drew hB.2 hS h
  rw [hol] at this
  exact wp_region_held (S := S) hm (by simpa using this)
theorem region_ordL {P : Program} {id : Nat} {L : List Oper} {Q : Exit → Act → World → Prop} {a : Act} {w : World} (n : Nat) (ord : List (Nat × Bool)) (S : World → Prop) (hm : P.follows .mixedOrders = true)
    (hB : (decide (n < L.length) && decide (ord.length = n) && Region.sinkB .any L.toArray n && Region.chainB .any L.toArray n && headOk .any L.toArray (L.take n).toArray n && Region.seqB .any L.toArray (L.length - n) n (Array.replicate n true ++ Array.replicate (L.length - n) false) && Region.noSelect (L.take n).toArray && ordOk .any (L.take n).toArray ord (Array.replicate n false)) = true)
    (hS : S w.drew) (h : wpOrd P (L.take n).toArray (Exit.then (wpList P L.toArray Q (L.drop n)) Q) S ord a w.drew) :
    (Code.region id L.toArray true).wp P Q a w := by
  have e : L.take n ++ L.drop n = L := List.take_append_drop n L
  simp only [Bool.and_eq_true, decide_eq_true_eq] at hB
  obtain ⟨⟨⟨⟨⟨⟨⟨h1, h2⟩, h3⟩, h4⟩, h5⟩, h6⟩, h7⟩, h8⟩ := hB
  have := region_ord (P := P) (id := id) (l := L.take n) (t := L.drop n) (Q := Q) (a := a) (w := w) n (L.length - n) ord S hm (by simp; omega) (by simp) (by omega) h2 (by rw [e]; simp [h3, h4, h5, h6, h7, h8]) hS (by rw [e]; exact h)
  rwa [e] at this
end Go.Proofs.X
