/-
  A part of a claim: lemmas and contracts of functions of the program; each theorem says what is proved, and its conditions.
-/
import Derived.Test.YthgdekcbagbbkaaLib2
import Derived.Deep.AppendLies
open Go Go.RowKit
namespace Go.Proofs.X
theorem ints_one (l : List Int) : ∀ u ∈ ints l, u.oneCell' = true := by
  intro u hu
  simp only [ints, List.mem_map] at hu
  obtain ⟨x, _, rfl⟩ := hu
  rfl
theorem ints_get {l : List Int} {j : Nat} {x : Int} (h : l[j]? = some x) : (ints l)[j]? = some (.int .i64 x) := by simp [ints, h]
theorem take_snoc' {α : Type} {l : List α} {k : Nat} {x : α} (h : l[k]? = some x) : l.take (k + 1) = l.take k ++ [x] := by
  rw [List.take_add_one, h]; rfl
theorem cells_new (w : World) (cs : List Value) (t : TypeId) (b : Nat) (hb : b = w.heap.size) (j : Nat) (u : Value) (h : cs[j]? = some u) : (w.alloc (.cells cs.toArray t)).cell? ⟨b, 0 + j, none⟩ = some u := by
  subst hb
  simpa [go_sem] using h
theorem grown_below {w w' : World} {B : Nat} {r : Option Nat} (hg : w.grownBy w' r) (hB : B ≤ w.heap.size) (hr : ∀ k, r = some k → B ≤ k) : Below B w w' := (Below.refl _ w).grown hg hB hr
/-- append of a slice literal, made in the operation ahead, to a slice of the call's own -/
theorem append_lit {P : Program} {w : World} {ops : Array Oper} {rest : List Oper} {o : Oper} {a : Act} {Q : Exit → Act → World → Prop} (hgd : o.guard = none) (s x : Operand) (t : TypeId)
    (ho : o.op = .call { callee := .builtin .append, args := #[s, x], argTypes := #[t, t] })
    (base : Nat) (e : TypeId) (i : TypeInfo) (z : Value) (size bytes : Nat) (ht : P.underlying t = some (.slice e)) (hi : P.info? e = some i) (hz : i.zero = some z)
    (hsize : i.size = size) (hby : i.bytes = bytes) (hzs : z.cells.size = size) (hsz : 0 < size)
    (v : Value) (n : Nat) (xs : List Value) (hs : a.eval s = v) (hown : w.ownsRow base e size v n xs)
    (cs : List Value) (m b : Nat) (hx : a.eval x = .slice (some ⟨b, 0, none⟩) m m) (hb : b = w.heap.size) (hl : cs.length = m * size) (h1 : ∀ u ∈ cs, u.oneCell' = true)
    (h63 : ((n + m : Nat) : Int) ≤ 1000000) (hbytes : bytes ≤ 1000) (hbase : base ≤ w.heap.size)
    (h : ∀ v' w', w'.ownsRow base e size v' (n + m) (xs ++ cs) → (w.alloc (.cells cs.toArray e)).grownBy w' v.ownBlock → Below base w w' → wpList P ops Q rest (a.put o.dst v') w') :
    wpList P ops Q (o :: rest) a (w.alloc (.cells cs.toArray e)) := by
  have hm : (n + m) * bytes ≤ 1000000 * 1000 := Nat.mul_le_mul (by omega) hbytes
  refine append_sl hgd s x t ho base e i z size bytes ht hi hz hsize hby hzs hsz v n xs hs (hown.alloc _) (some ⟨b, 0, none⟩) m m cs hx hl (by simp) (fun j u hj => ⟨b, 0, rfl, cells_new w cs e b hb j u hj⟩) (by simp) h1 (by unfold maxLen; omega) (by omega) (by simp; omega) (fun v' w' h2 h3 => h v' w' h2 h3 ?_)
  exact ((Below.refl base w).alloc hbase _).grown h3 (by simp; omega) (fun k hk => (hown.lt k hk).1)
/-- 's[m:]' -/
theorem SlK.from {P : Program} {sz : Nat} {w : World} {a : Option Addr} {n c : Nat} {rows : List (List Value)} (h : SlK sz w a n c rows) (T : TypeId) (ht : P.underlying T = some (.slice (P.elem T))) (hs : ∀ w, (sizeOf (P.elem T)).run P w = .ok sz w) (x : Int) (m : Nat) (hx : x = m) (hm : m ≤ n) :
    ∃ a', (∀ w, (Instr.slice T (.slice a n c) (some (.int .i64 x)) none none).run P w = .ok (.slice a' (n - m) (c - m)) w) ∧ ∀ w', SlK sz w' a n c rows → SlK sz w' a' (n - m) (c - m) (rows.drop m) := by
  refine ⟨if c = m then a else a.map (·.add (m * sz)), fun w => ?_, fun w' h' => ?_⟩
  · subst hx
    rw [run_slice_l w T a n c ht .i64 _ (by omega) (by omega), hs]
    simp [Result.andThen, sliced]
  · refine ⟨by rw [List.length_drop, h'.len], by have := h'.cap; omega, by have := h'.big; omega, ?_, fun i r hi => ?_⟩
    · intro hn
      split at hn
      · have := h'.nil hn; omega
      · cases a with
        | none => have := h'.nil rfl; omega
        | some ad => simp at hn
    · rw [List.getElem?_drop] at hi
      obtain ⟨b, o, rfl, hb, hr, hc⟩ := h'.mem _ _ hi
      have hlt := (List.getElem?_eq_some_iff.1 hi).1
      rw [h'.len] at hlt
      have := h'.cap
      rw [if_neg (by omega)]
      refine ⟨b, o + m * sz, by simp [Addr.add_lit], hb, hr, fun j v hj => ?_⟩
      have := hc j v hj
      rw [Nat.add_mul] at this
      rw [show o + m * sz + i * sz + j = o + (m * sz + i * sz) + j by omega]
      exact this
theorem own_ne {w : World} {B : Nat} {e : TypeId} {size : Nat} {v : Value} {n : Nat} {xs : List Value} (h : w.ownsRow B e size v n xs) {b : Nat} {c : Array Value} {T : TypeId} {fr : Nat × Nat} (hb : w.heap[b]? = some (.cells c T fr)) (hT : T ≠ e) : v.ownBlock ≠ some b := by
  intro hv
  rcases h.2 with ⟨rfl, _⟩ | ⟨g, cap, cur, rfl, _, hh, _⟩
  · simp [Value.ownBlock] at hv
  · simp [Value.ownBlock] at hv
    subst hv
    rw [hh] at hb
    simp at hb
    exact hT hb.2.1.symm
theorem block_grown {w w' : World} {r : Option Nat} (hg : w.grownBy w' r) {b : Nat} {ob : Obj} (hb : w.heap[b]? = some ob) (hne : r ≠ some b) : w'.heap[b]? = some ob := by
  rw [hg.block b (Array.getElem?_eq_some_iff.1 hb).1 (fun e => hne e.symm)]; exact hb
theorem block_cell {w : World} {b : Nat} {c : Array Value} {T : TypeId} {fr : Nat × Nat} (hb : w.heap[b]? = some (.cells c T fr)) {j : Nat} {v : Value} (hj : c[j]? = some v) : w.cell? ⟨b, j, none⟩ = some v := by
  simp [World.cell?, hb, hj]
theorem block_new (w : World) (ob : Obj) : (w.alloc ob).heap[w.heap.size]? = some ob := by
  show (w.heap.push ob)[w.heap.size]? = _
  simp
theorem block_old {w w' : World} {b : Nat} {ob : Obj} (hb : w.heap[b]? = some ob) (h : Below w.heap.size w w') : w'.heap[b]? = some ob := by
  rw [h.block b (Array.getElem?_eq_some_iff.1 hb).1]; exact hb
theorem sl1_lit (w : World) (cs : List Value) (n b : Nat) (t : TypeId) (hb : b = w.heap.size) (hn : cs.length = n) (hbig : (n : Int) ≤ 1000) : Sl1 (w.alloc (.cells cs.toArray t)) (some ⟨b, 0, none⟩) n n cs := by
  refine ⟨hn, by omega, by omega, by simp, fun i v hi => ⟨b, 0, rfl, by subst hb; simp, cells_new w cs t b hb i v hi⟩⟩
theorem slK_lit (k : Nat) (w : World) (rows : List (List Value)) (n b : Nat) (t : TypeId) (hb : b = w.heap.size) (hn : rows.length = n) (hk : ∀ r ∈ rows, r.length = k) (hbig : (n : Int) ≤ 1000) : SlK k (w.alloc (.cells rows.flatten.toArray t)) (some ⟨b, 0, none⟩) n n rows := by
  refine ⟨hn, by omega, by omega, by simp, fun i r hi => ⟨b, 0, rfl, by subst hb; simp, hk r (List.mem_of_getElem? hi), fun j v hj => ?_⟩⟩
  have := cells_new w rows.flatten t b hb (i * k + j) v (flatten_get hk hi hj)
  rwa [← Nat.add_assoc] at this
/-- a slice that reads as vs, in a block of element type T -/
structure SlT (T : TypeId) (w : World) (a : Option Addr) (n c : Nat) (vs : List Value) : Prop where
  len : vs.length = n
  cap : n ≤ c
  big : c ≤ 9223372036854775807
  nil : a = none → n = 0 ∧ c = 0
  mem : ∀ i v, vs[i]? = some v → ∃ b o cc fr, a = some ⟨b, o, none⟩ ∧ w.heap[b]? = some (.cells cc T fr) ∧ cc[o + i]? = some v
theorem SlT.sl1 {T : TypeId} {w : World} {a : Option Addr} {n c : Nat} {vs : List Value} (h : SlT T w a n c vs) : Sl1 w a n c vs :=
  ⟨h.len, h.cap, h.big, h.nil, fun i v hi => let ⟨b, o, _, _, h1, h2, h3⟩ := h.mem i v hi; ⟨b, o, h1, (Array.getElem?_eq_some_iff.1 h2).1, block_cell h2 h3⟩⟩
theorem SlT.below {T : TypeId} {w w' : World} {a : Option Addr} {n c : Nat} {vs : List Value} (h : SlT T w a n c vs) (hb : Below w.heap.size w w') : SlT T w' a n c vs :=
  ⟨h.len, h.cap, h.big, h.nil, fun i v hi => let ⟨b, o, cc, fr, h1, h2, h3⟩ := h.mem i v hi; ⟨b, o, cc, fr, h1, block_old h2 hb, h3⟩⟩
theorem SlT.grown {T : TypeId} {w w' : World} {a : Option Addr} {n c : Nat} {vs : List Value} (h : SlT T w a n c vs) {B : Nat} {e : TypeId} {size m : Nat} {v : Value} {xs : List Value} (hg : w.grownBy w' v.ownBlock) (ho : w.ownsRow B e size v m xs) (hT : T ≠ e) : SlT T w' a n c vs :=
  ⟨h.len, h.cap, h.big, h.nil, fun i v hi => let ⟨b, o, cc, fr, h1, h2, h3⟩ := h.mem i v hi; ⟨b, o, cc, fr, h1, block_grown hg h2 (own_ne ho h2 hT), h3⟩⟩
theorem own_slT {w : World} {B : Nat} {e : TypeId} {n : Nat} {v : Value} {xs : List Value} (h : w.ownsRow B e 1 v n xs) : ∃ a c, v = .slice a n c ∧ SlT e w a n c xs := by
  obtain ⟨a, c, rfl, h1, h2, h3, h4⟩ := own_slice h
  refine ⟨a, c, rfl, by simpa using h.1, h1, h2, h3, fun i u hi => ?_⟩
  have hl : i < n * 1 := by rw [← h.1]; exact (List.getElem?_eq_some_iff.1 hi).1
  rcases h.2 with ⟨_, rfl⟩ | ⟨g, cap, cur, hv, hg, hh, h5, h6, h7, h8⟩
  · omega
  · cases hv
    refine ⟨g, 0, cur, (0, 0), rfl, hh, ?_⟩
    rw [← h8, List.getElem?_take_of_lt hl] at hi
    simpa using hi
def Rows2T (T : TypeId) (w : World) (vs : List Value) (pl : List (List Int)) : Prop := vs.length = pl.length ∧ ∀ (i : Nat) (v : Value) (r : List Int), vs[i]? = some v → pl[i]? = some r → ∃ a c, v = .slice a r.length c ∧ SlT T w a r.length c (ints r)
theorem Rows2T.below {T : TypeId} {w w' : World} {vs : List Value} {pl : List (List Int)} (h : Rows2T T w vs pl) (hb : Below w.heap.size w w') : Rows2T T w' vs pl :=
  ⟨h.1, fun i v r hv hr => let ⟨a, c, h1, h2⟩ := h.2 i v r hv hr; ⟨a, c, h1, h2.below hb⟩⟩
theorem Rows2T.grown {T : TypeId} {w w' : World} {vs : List Value} {pl : List (List Int)} (h : Rows2T T w vs pl) {B : Nat} {e : TypeId} {size m : Nat} {v : Value} {xs : List Value} (hg : w.grownBy w' v.ownBlock) (ho : w.ownsRow B e size v m xs) (hT : T ≠ e) : Rows2T T w' vs pl :=
  ⟨h.1, fun i v r hv hr => let ⟨a, c, h1, h2⟩ := h.2 i v r hv hr; ⟨a, c, h1, h2.grown hg ho hT⟩⟩
theorem Rows2T.snoc {T : TypeId} {w : World} {vs : List Value} {pl : List (List Int)} (h : Rows2T T w vs pl) {a : Option Addr} {c : Nat} {r : List Int} (hs : SlT T w a r.length c (ints r)) : Rows2T T w (vs ++ [.slice a r.length c]) (pl ++ [r]) := by
  refine ⟨by simp [h.1], fun i v r' hv hr => ?_⟩
  have h1 := h.1
  by_cases hi : i < vs.length
  · rw [List.getElem?_append_left hi] at hv
    rw [List.getElem?_append_left (by omega)] at hr
    exact h.2 i v r' hv hr
  · rw [List.getElem?_append_right (by omega)] at hv hr
    rw [h1] at hv
    cases hk : i - pl.length with
    | zero => rw [hk] at hv hr; simp at hv hr; subst hv; subst hr; exact ⟨a, c, rfl, hs⟩
    | succ k => rw [hk] at hv; simp at hv
theorem Rows2T.nil (T : TypeId) (w : World) : Rows2T T w [] [] := ⟨rfl, fun i v r hv => by simp at hv⟩
end Go.Proofs.X
