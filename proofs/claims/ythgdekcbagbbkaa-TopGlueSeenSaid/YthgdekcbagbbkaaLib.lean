/-
  A part of a claim: lemmas and contracts of functions of the program; each theorem says what is proved, and its conditions.
-/
import Derived.WalkKit
import Derived.WalkLawsBesides
import Derived.WalkSpells
import Derived.LoopTactic
import Derived.Outline
import Derived.Deep.LoopGhost
import Derived.Deep.QuietTactic
import Derived.BigQuiet
import Derived.Deep.DeepCutAuto
import Derived.Deep.RegionHeld3
import Derived.Laws.AppendOwnNone
import Derived.Lib.Hide
import Derived.Shelf.Abstract
open Go Go.RowKit
namespace Go.Proofs.X
/-- the slice (a, n, c) reads as vs: elements of one cell -/
structure Sl1 (w : World) (a : Option Addr) (n c : Nat) (vs : List Value) : Prop where
  len : vs.length = n
  cap : n ≤ c
  big : c ≤ 9223372036854775807
  nil : a = none → n = 0 ∧ c = 0
  mem : ∀ i v, vs[i]? = some v → ∃ b o, a = some ⟨b, o, none⟩ ∧ b < w.heap.size ∧ w.cell? ⟨b, o + i, none⟩ = some v

theorem Sl1.below {w w' : World} {a n c vs} (h : Sl1 w a n c vs) (hb : Below w.heap.size w w') : Sl1 w' a n c vs :=
  ⟨h.len, h.cap, h.big, h.nil, fun i v hi => by
    obtain ⟨b, o, rfl, hlt, hc⟩ := h.mem i v hi
    exact ⟨b, o, rfl, Nat.lt_of_lt_of_le hlt hb.size, by rw [hb.cell (p := ⟨b, o + i, none⟩) hlt]; exact hc⟩⟩
theorem Sl1.get {w : World} {a n c vs} (h : Sl1 w a n c vs) {i : Nat} (hi : i < n) : ∃ v, vs[i]? = some v :=
  ⟨vs[i]'(by rw [h.len]; exact hi), List.getElem?_eq_getElem _⟩
/-- elements of k cells, each an aggregate -/
structure SlK (k : Nat) (w : World) (a : Option Addr) (n c : Nat) (rows : List (List Value)) : Prop where
  len : rows.length = n
  cap : n ≤ c
  big : c ≤ 9223372036854775807
  nil : a = none → n = 0 ∧ c = 0
  mem : ∀ i r, rows[i]? = some r → ∃ b o, a = some ⟨b, o, none⟩ ∧ b < w.heap.size ∧ r.length = k ∧ ∀ j v, r[j]? = some v → w.cell? ⟨b, o + i * k + j, none⟩ = some v
theorem SlK.below {k} {w w' : World} {a n c vs} (h : SlK k w a n c vs) (hb : Below w.heap.size w w') : SlK k w' a n c vs :=
  ⟨h.len, h.cap, h.big, h.nil, fun i r hi => by
    obtain ⟨b, o, rfl, hlt, hk, hc⟩ := h.mem i r hi
    exact ⟨b, o, rfl, Nat.lt_of_lt_of_le hlt hb.size, hk, fun j v hj => by rw [hb.cell (p := ⟨b, o + i*k + j, none⟩) hlt]; exact hc j v hj⟩⟩
theorem SlK.get {k} {w : World} {a n c rows} (h : SlK k w a n c rows) {i : Nat} (hi : i < n) : ∃ v, rows[i]? = some v :=
  ⟨rows[i]'(by rw [h.len]; exact hi), List.getElem?_eq_getElem _⟩
def ints (l : List Int) : List Value := l.map (Value.int .i64)
def Ends (b : Bool) (w : World) (e : Ending) (w' : World) : Prop := e = .returned (.bool b) ∧ Below w.heap.size w w'
/-- the function value 'g with cs' answers bs[i] at vs[i] -/
def Answers (P : Program) (g : FuncId) (cs : Array Value) (w : World) (vs : List Value) (bs : List Bool) : Prop :=
  bs.length = vs.length ∧ ∀ (i : Nat) (v : Value) (b : Bool) (w1 : World), vs[i]? = some v → bs[i]? = some b → Below w.heap.size w w1 → Calls P g (#[v] ++ cs) w1 (Ends b w1)
def firstTrue (bs : List Bool) : Int := match bs.findIdx? id with | some i => (i : Int) | none => -1
def noneTrue (bs : List Bool) (k : Nat) : Prop := ∀ j, j < k → bs[j]? = some false
theorem firstTrue_hit (bs : List Bool) (k : Nat) (hk : bs[k]? = some true) (hn : noneTrue bs k) : firstTrue bs = (k : Int) := by
  obtain ⟨h, hk'⟩ := List.getElem?_eq_some_iff.1 hk
  have : bs.findIdx? id = some k := by
    rw [List.findIdx?_eq_some_iff_getElem]
    refine ⟨h, by simpa using hk', fun j hj => ?_⟩
    have := hn j hj
    rw [List.getElem?_eq_getElem (by omega)] at this
    simpa using this
  simp [firstTrue, this]
theorem firstTrue_miss (bs : List Bool) (hn : noneTrue bs bs.length) : firstTrue bs = -1 := by
  have : bs.findIdx? id = none := by
    rw [List.findIdx?_eq_none_iff]
    intro x hx
    obtain ⟨j, hj, rfl⟩ := List.getElem_of_mem hx
    have := hn j hj
    rw [List.getElem?_eq_getElem hj] at this
    simpa using this
  simp [firstTrue, this]
theorem noneTrue_succ {bs : List Bool} {k : Nat} (hn : noneTrue bs k) (hk : bs[k]? = some false) : noneTrue bs (k+1) := by
  intro j hlt
  by_cases e : j = k
  · subst e; exact hk
  · exact hn j (by omega)
theorem noneTrue_zero (bs : List Bool) : noneTrue bs 0 := fun _ h => absurd h (Nat.not_lt_zero _)
theorem firstTrue_any (bs : List Bool) : decide (0 ≤ firstTrue bs) = bs.any id := by
  unfold firstTrue
  cases h : bs.findIdx? id with
  | none => 
    rw [List.findIdx?_eq_none_iff] at h
    have : bs.any id = false := by simpa using h
    simp [this]
  | some i =>
    rw [List.findIdx?_eq_some_iff_getElem] at h
    obtain ⟨hi, ht, _⟩ := h
    have : bs.any id = true := by simp only [List.any_eq_true]; exact ⟨bs[i], List.getElem_mem hi, ht⟩
    simp [this]

theorem below_tr {w w1 w2 : World} (h : Below w.heap.size w w1) (k : Below w1.heap.size w1 w2) : Below w.heap.size w w2 := h.trans (k.mono h.size)
theorem below_alloc (w : World) (o : Obj) : Below w.heap.size w (w.alloc o) := (Below.refl _ _).alloc (Nat.le_refl _) o
theorem below_alloc2 (w : World) (o p : Obj) : Below w.heap.size w ((w.alloc o).alloc p) := below_tr (below_alloc w o) (below_alloc _ p)
theorem below_alloc3 (w : World) (o p q : Obj) : Below w.heap.size w (((w.alloc o).alloc p).alloc q) := below_tr (below_alloc2 w o p) (below_alloc _ q)
theorem below_alloc4 (w : World) (o p q r : Obj) : Below w.heap.size w ((((w.alloc o).alloc p).alloc q).alloc r) := below_tr (below_alloc3 w o p q) (below_alloc _ r)
theorem cell_old {w w1 : World} {b o : Nat} {v : Value} (h : w.cell? ⟨b, o, none⟩ = some v) (hb : Below w.heap.size w w1) (hlt : b < w.heap.size) : w1.cell? ⟨b, o, none⟩ = some v := by
  rw [hb.cell (p := ⟨b, o, none⟩) hlt]; exact h
theorem cell_lt {w : World} {b o : Nat} {v : Value} (h : w.cell? ⟨b, o, none⟩ = some v) : b < w.heap.size := by
  unfold World.cell? at h
  cases hh : w.heap[b]? with
  | none => simp [hh] at h
  | some x => exact (Array.getElem?_eq_some_iff.1 hh).1
theorem cell_later {w w1 : World} {b o : Nat} {v : Value} (h : w.cell? ⟨b, o, none⟩ = some v) (hb : Below w.heap.size w w1) : w1.cell? ⟨b, o, none⟩ = some v := cell_old h hb (cell_lt h)
theorem Answers.of_map {P : Program} {g : FuncId} {cs : Array Value} {w : World} {α : Type} {enc : α → Value} {p : α → Bool} (l : List α)
    (h : ∀ x (w1 : World), x ∈ l → Below w.heap.size w w1 → Calls P g (#[enc x] ++ cs) w1 (Ends (p x) w1)) : Answers P g cs w (l.map enc) (l.map p) := by
  refine ⟨by simp, fun i v b w1 hv hb hw => ?_⟩
  simp only [List.getElem?_map, Option.map_eq_some_iff] at hv hb
  obtain ⟨x, hx, rfl⟩ := hv
  obtain ⟨y, hy, rfl⟩ := hb
  rw [hx] at hy
  cases hy
  exact h x w1 (List.mem_of_getElem? hx) hw
def aggs (rows : List (List Value)) : List Value := rows.map fun r => .agg r.toArray
theorem aggs_length (rows : List (List Value)) : (aggs rows).length = rows.length := by simp [aggs]
theorem aggs_get {rows : List (List Value)} {i : Nat} {r : List Value} (h : rows[i]? = some r) : (aggs rows)[i]? = some (.agg r.toArray) := by simp [aggs, h]
theorem len1 {l : List Value} (h : l.length = 1) : ∃ a, l = [a] := by match l, h with | [a], _ => exact ⟨a, rfl⟩
theorem len2 {l : List Value} (h : l.length = 2) : ∃ a b, l = [a, b] := by match l, h with | [a, b], _ => exact ⟨a, b, rfl⟩
theorem len3 {l : List Value} (h : l.length = 3) : ∃ a b c, l = [a, b, c] := by match l, h with | [a, b, c], _ => exact ⟨a, b, c, rfl⟩
theorem len4 {l : List Value} (h : l.length = 4) : ∃ a b c d, l = [a, b, c, d] := by match l, h with | [a, b, c, d], _ => exact ⟨a, b, c, d, rfl⟩
theorem len5 {l : List Value} (h : l.length = 5) : ∃ a b c d e, l = [a, b, c, d, e] := by match l, h with | [a, b, c, d, e], _ => exact ⟨a, b, c, d, e, rfl⟩
def outside (lo hi x : Int) : Bool := decide (x < lo) || decide (hi < x)

theorem own_mono {w : World} {B B' : Nat} {e : TypeId} {size : Nat} {v : Value} {n : Nat} {xs : List Value} (h : w.ownsRow B e size v n xs) (hb : B' ≤ B) : w.ownsRow B' e size v n xs := by
  obtain ⟨h1, h2⟩ := h
  refine ⟨h1, ?_⟩
  rcases h2 with h2 | ⟨g, cap, cur, hv, hg, r⟩
  · exact .inl h2
  · exact .inr ⟨g, cap, cur, hv, by omega, r⟩
theorem own_below {w w' : World} {B : Nat} {e : TypeId} {size : Nat} {v : Value} {n : Nat} {xs : List Value} (h : w.ownsRow B e size v n xs) (hb : Below w.heap.size w w') : w'.ownsRow B e size v n xs := by
  obtain ⟨h1, h2⟩ := h
  refine ⟨h1, ?_⟩
  rcases h2 with h2 | ⟨g, cap, cur, hv, hg, hh, r⟩
  · exact .inl h2
  · exact .inr ⟨g, cap, cur, hv, hg, by rw [hb.block g (Array.getElem?_eq_some_iff.1 hh).1]; exact hh, r⟩
theorem own_cell {w : World} {B : Nat} {e : TypeId} {size g n cap : Nat} {xs : List Value} (h : w.ownsRow B e size (.slice (some ⟨g, 0, none⟩) n cap) n xs) {j : Nat} {u : Value} (hj : xs[j]? = some u) : w.cell? ⟨g, j, none⟩ = some u := by
  have hl : j < n * size := by rw [← h.1]; exact (List.getElem?_eq_some_iff.1 hj).1
  rw [h.cellAt j hl]; exact hj
theorem own_slice {w : World} {B : Nat} {e : TypeId} {size n : Nat} {v : Value} {xs : List Value} (h : w.ownsRow B e size v n xs) :
    ∃ a c, v = .slice a n c ∧ n ≤ c ∧ c ≤ 9223372036854775807 ∧ (a = none → n = 0 ∧ c = 0) ∧ (∀ ad, a = some ad → ∃ g, ad = ⟨g, 0, none⟩ ∧ B ≤ g ∧ g < w.heap.size) := by
  obtain ⟨h1, h2⟩ := h
  rcases h2 with ⟨rfl, rfl⟩ | ⟨g, cap, cur, hv, hg, hh, hn, hc, r⟩
  · exact ⟨none, 0, rfl, by omega, by omega, fun _ => ⟨rfl, rfl⟩, fun _ h => by cases h⟩
  · exact ⟨_, cap, hv, hn, by unfold maxLen at hc; omega, (fun h => by cases h), fun ad h => by cases h; exact ⟨g, rfl, hg, (Array.getElem?_eq_some_iff.1 hh).1⟩⟩
theorem own_mem {w : World} {B : Nat} {e : TypeId} {size n c : Nat} {a : Option Addr} {xs : List Value} (h : w.ownsRow B e size (.slice a n c) n xs) {j : Nat} {u : Value} (hj : xs[j]? = some u) :
    ∃ b, a = some ⟨b, 0, none⟩ ∧ B ≤ b ∧ b < w.heap.size ∧ w.cell? ⟨b, j, none⟩ = some u := by
  have hl : j < n * size := by rw [← h.1]; exact (List.getElem?_eq_some_iff.1 hj).1
  rcases h.2 with ⟨hv, rfl⟩ | ⟨g, cap, cur, hv, hg, hh, r⟩
  · simp at hl
  · cases hv
    exact ⟨g, rfl, hg, (Array.getElem?_eq_some_iff.1 hh).1, own_cell h hj⟩
theorem own_sl1 {w : World} {B : Nat} {e : TypeId} {n : Nat} {v : Value} {xs : List Value} (h : w.ownsRow B e 1 v n xs) : ∃ a c, v = .slice a n c ∧ Sl1 w a n c xs := by
  obtain ⟨a, c, rfl, h1, h2, h3, _⟩ := own_slice h
  refine ⟨a, c, rfl, by simpa using h.1, h1, h2, h3, fun i u hi => ?_⟩
  obtain ⟨b, rfl, _, hb, hc⟩ := own_mem h hi
  exact ⟨b, 0, rfl, hb, by simpa using hc⟩
theorem flatten_get {k : Nat} : ∀ {rows : List (List Value)} (_ : ∀ r ∈ rows, r.length = k) {i j : Nat} {r : List Value} {v : Value}, rows[i]? = some r → r[j]? = some v → rows.flatten[i * k + j]? = some v
  | [], _, i, j, r, v, h, _ => by simp at h
  | x :: rows, hk, 0, j, r, v, h, hj => by
    simp only [List.getElem?_cons_zero, Option.some.injEq] at h
    subst h
    simp only [List.flatten_cons, Nat.zero_mul, Nat.zero_add]
    rw [List.getElem?_append_left (List.getElem?_eq_some_iff.1 hj).1]; exact hj
  | x :: rows, hk, i + 1, j, r, v, h, hj => by
    simp only [List.getElem?_cons_succ] at h
    have hx := hk x (by simp)
    rw [List.flatten_cons, List.getElem?_append_right (by rw [hx, Nat.succ_mul]; omega), hx]
    rw [show (i + 1) * k + j - k = i * k + j by rw [Nat.succ_mul]; omega]
    exact flatten_get (fun r hr => hk r (by simp [hr])) h hj
theorem flatten_len {k : Nat} : ∀ {rows : List (List Value)} (_ : ∀ r ∈ rows, r.length = k), rows.flatten.length = rows.length * k
  | [], _ => by simp
  | x :: rows, hk => by
    rw [List.flatten_cons, List.length_append, hk x (by simp), flatten_len (fun r hr => hk r (by simp [hr])), List.length_cons, Nat.succ_mul]; omega
theorem own_slK {k : Nat} {w : World} {B : Nat} {e : TypeId} {n : Nat} {v : Value} {rows : List (List Value)} (h : w.ownsRow B e k v n rows.flatten) (hk : ∀ r ∈ rows, r.length = k) (hn : rows.length = n) : ∃ a c, v = .slice a n c ∧ SlK k w a n c rows := by
  obtain ⟨a, c, rfl, h1, h2, h3, h4⟩ := own_slice h
  refine ⟨a, c, rfl, hn, h1, h2, h3, fun i r hi => ?_⟩
  have hin : i < n := by rw [← hn]; exact (List.getElem?_eq_some_iff.1 hi).1
  cases ha : a with
  | none => have := (h3 ha).1; omega
  | some ad =>
    obtain ⟨g, rfl, _, hg⟩ := h4 ad ha
    subst ha
    exact ⟨g, 0, rfl, hg, hk r (List.mem_of_getElem? hi), fun j v hj => by simpa using own_cell h (flatten_get hk hi hj)⟩
/-- append to a slice of the call's own, whatever the source: nil or not -/
theorem append_sl {P : Program} {w : World} {ops : Array Oper} {rest : List Oper} {o : Oper} {a : Act} {Q : Exit → Act → World → Prop} (hgd : o.guard = none) (s x : Operand) (t : TypeId)
    (ho : o.op = .call { callee := .builtin .append, args := #[s, x], argTypes := #[t, t] })
    (base : Nat) (e : TypeId) (i : TypeInfo) (z : Value) (size bytes : Nat) (ht : P.underlying t = some (.slice e)) (hi : P.info? e = some i) (hz : i.zero = some z)
    (hsize : i.size = size) (hby : i.bytes = bytes) (hzs : z.cells.size = size) (hsz : 0 < size)
    (v : Value) (n : Nat) (xs : List Value) (hs : a.eval s = v) (hown : w.ownsRow base e size v n xs)
    (ad : Option Addr) (m c : Nat) (news : List Value) (hx : a.eval x = .slice ad m c) (hl : news.length = m * size) (hnil : ad = none → m = 0 ∧ c = 0)
    (hnews : ∀ (j : Nat) (u : Value), news[j]? = some u → ∃ b o', ad = some ⟨b, o', none⟩ ∧ w.cell? ⟨b, o' + j, none⟩ = some u) (hsp : ∀ x, ad = some x → x.spot = none) (h1 : ∀ u ∈ news, u.oneCell' = true)
    (h63 : n + m ≤ maxLen) (hbytes : (n + m) * bytes ≤ 140737488355328) (hbase : base ≤ w.heap.size)
    (h : ∀ v' w', w'.ownsRow base e size v' (n + m) (xs ++ news) → w.grownBy w' v.ownBlock → wpList P ops Q rest (a.put o.dst v') w') : wpList P ops Q (o :: rest) a w := by
  cases ad with
  | none =>
    obtain ⟨rfl, rfl⟩ := hnil rfl
    have hn : news = [] := by simpa using hl
    subst hn
    exact wpList_append_own_none hgd s x t ho base e i size ht hi v n xs hs hown hx (h v w (by simpa using hown) ⟨rfl, rfl, rfl, Nat.le_refl _, fun _ _ _ => rfl⟩)
  | some ad =>
    obtain ⟨b, o', sp⟩ := ad
    have := hsp _ rfl
    dsimp only at this
    subst this
    refine wpList_append_own w hgd s x t ho base e i z size bytes ht hi hz hsize hby hzs hsz v n xs hs hown ⟨b, o', none⟩ m c news hx hl (fun j u hj => ?_) h1 h63 hbytes hbase (fun v' w' h2 h3 _ => h v' w' h2 h3)
    obtain ⟨b', o'', he, hc⟩ := hnews j u hj
    cases he
    rw [Addr.add_lit]; exact hc

theorem sl1_lit1 (w : World) (b : Nat) (x : Value) (t : TypeId) (hb : b = w.heap.size) : Sl1 (w.alloc (.cells #[x] t)) (some ⟨b, 0, none⟩) 1 1 [x] := by
  subst hb
  refine ⟨rfl, by omega, by omega, by simp, fun i v hi => ⟨w.heap.size, 0, rfl, by simp, ?_⟩⟩
  match i, hi with
  | 0, hi => simpa [go_sem] using hi
theorem bcell {W w1 : World} (hb : Below W.heap.size W w1) : (∀ b o, b < W.heap.size → w1.cell? ⟨b, o, none⟩ = W.cell? ⟨b, o, none⟩) ∧ (∀ b o, b < W.heap.size → w1.frozen? ⟨b, o, none⟩ = W.frozen? ⟨b, o, none⟩) :=
  ⟨fun b o h => hb.cell (p := ⟨b, o, none⟩) h, fun b o h => hb.frozen (p := ⟨b, o, none⟩) h⟩

theorem below_dr (w : World) (n : Nat) : Below w.heap.size w (w.drewN n) := below_drewN (Below.refl _ _) n
end Go.Proofs.X
