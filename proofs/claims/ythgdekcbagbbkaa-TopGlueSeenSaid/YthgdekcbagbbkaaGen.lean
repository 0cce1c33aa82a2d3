/-
  A part of a claim: lemmas and contracts of functions of the program; each theorem says what is proved, and its conditions.
-/
import Derived.Test.YthgdekcbagbbkaaLib
import Derived.Test.YthgdekcbagbbkaaProg
open Go Go.RowKit
namespace Go.Proofs.X
theorem IndexFunc_int (f : FuncId) (cs : Array Value) (a : Option Addr) (n c : Nat) (vs : List Value) (bs : List Bool) (w : World) (h : Sl1 w a n c vs)
  (eg : ∀ args w, (callFunc f args).run Try.prog w = .ok (.enter f args) w) (hf : Answers Try.prog f cs w vs bs) :
    Calls Try.prog 63 #[.slice a n c, .func (.func f) #[] cs] w fun e w' => e = .returned (.int .i64 (firstTrue bs)) ∧ Below w.heap.size w w' := by
  have hcap := h.cap
  have hbig := h.big
  have H := Lib.hid h
  have Hf := Lib.hid hf
  clear h hf
  go_enter Try.func63, Try.ntmps63
  go_wp2
  go_loopg [5, 8] n (fun g _ j wr => ∃ k : Nat, k ≤ n ∧ n - k ≤ g ∧ j = .int .i64 k ∧ Aside (noneTrue bs k) ∧ Aside (Below w.heap.size w wr))
  case atStart => exact ⟨0, Nat.zero_le _, Nat.le_refl _, rfl, noneTrue_zero _, Below.refl _ _⟩
  case round =>
    obtain ⟨k, hk, hg, rfl, hn, hb⟩ := hrel
    by_cases hlt : k < n
    · obtain ⟨y, hy⟩ := H.out.get hlt
      obtain ⟨bk, hbk⟩ : ∃ b, bs[k]? = some b := ⟨bs[k]'(by rw [Hf.out.1, H.out.len]; exact hlt), List.getElem?_eq_getElem _⟩
      have hcall := Hf.out.2 k y bk wr hy hbk hb.out
      obtain ⟨b, o, rfl, hbs, hcell⟩ := (H.out.below hb.out).mem k y hy
      have Hbk := Lib.hid hbk
      clear hbk hy
      go_wp2_with (go_at_fn f; refine hcall.mono ?_; rintro e w2 ⟨rfl, hb2⟩)
      · go_ret
        subst bk
        exact ⟨by rw [firstTrue_hit bs k Hbk.out hn.out]; rfl, hb.out.trans (hb2.mono hb.out.size)⟩
      · go_roundg (n - (k+1))
        case measure => omega
        case rel => 
          subst bk
          exact ⟨k+1, by omega, by omega, by go_num, noneTrue_succ hn.out Hbk.out, hb.out.trans (hb2.mono hb.out.size)⟩
    · go_wp2
      go_ret
      have hk' : k = n := by omega
      subst hk'
      exact ⟨by rw [firstTrue_miss bs (by rw [Hf.out.1, H.out.len]; exact hn.out)]; rfl, hb.out⟩

theorem ContainsFunc_int (f : FuncId) (cs : Array Value) (a : Option Addr) (n c : Nat) (vs : List Value) (bs : List Bool) (w : World) (h : Sl1 w a n c vs)
  (eg : ∀ args w, (callFunc f args).run Try.prog w = .ok (.enter f args) w) (hf : Answers Try.prog f cs w vs bs) :
    Calls Try.prog 39 #[.slice a n c, .func (.func f) #[] cs] w (Ends (bs.any id) w) := by
  rw [← firstTrue_any]
  have H := Lib.hid h
  have Hf := Lib.hid hf
  clear h hf
  go_enter Try.func39, Try.ntmps39
  go_wp2_with (go_at_call 63; refine (IndexFunc_int f cs a n c vs bs _ H.out eg Hf.out).mono ?_; rintro e w1 ⟨rfl, hb⟩)
  go_ret
  exact ⟨by simp, hb⟩

theorem IndexFunc_ints (f : FuncId) (cs : Array Value) (a : Option Addr) (n c : Nat) (vs : List Value) (bs : List Bool) (w : World) (h : Sl1 w a n c vs)
  (eg : ∀ args w, (callFunc f args).run Try.prog w = .ok (.enter f args) w) (hf : Answers Try.prog f cs w vs bs) :
    Calls Try.prog 41 #[.slice a n c, .func (.func f) #[] cs] w fun e w' => e = .returned (.int .i64 (firstTrue bs)) ∧ Below w.heap.size w w' := by
  have hcap := h.cap
  have hbig := h.big
  have H := Lib.hid h
  have Hf := Lib.hid hf
  clear h hf
  go_enter Try.func41, Try.ntmps41
  go_wp2
  go_loopg [5, 8] n (fun g _ j wr => ∃ k : Nat, k ≤ n ∧ n - k ≤ g ∧ j = .int .i64 k ∧ Aside (noneTrue bs k) ∧ Aside (Below w.heap.size w wr))
  case atStart => exact ⟨0, Nat.zero_le _, Nat.le_refl _, rfl, noneTrue_zero _, Below.refl _ _⟩
  case round =>
    obtain ⟨k, hk, hg, rfl, hn, hb⟩ := hrel
    by_cases hlt : k < n
    · obtain ⟨y, hy⟩ := H.out.get hlt
      obtain ⟨bk, hbk⟩ : ∃ b, bs[k]? = some b := ⟨bs[k]'(by rw [Hf.out.1, H.out.len]; exact hlt), List.getElem?_eq_getElem _⟩
      have hcall := Hf.out.2 k y bk wr hy hbk hb.out
      obtain ⟨b, o, rfl, hbs, hcell⟩ := (H.out.below hb.out).mem k y hy
      have Hbk := Lib.hid hbk
      clear hbk hy
      go_wp2_with (go_at_fn f; refine hcall.mono ?_; rintro e w2 ⟨rfl, hb2⟩)
      · go_ret
        subst bk
        exact ⟨by rw [firstTrue_hit bs k Hbk.out hn.out]; rfl, hb.out.trans (hb2.mono hb.out.size)⟩
      · go_roundg (n - (k+1))
        case measure => omega
        case rel => 
          subst bk
          exact ⟨k+1, by omega, by omega, by go_num, noneTrue_succ hn.out Hbk.out, hb.out.trans (hb2.mono hb.out.size)⟩
    · go_wp2
      go_ret
      have hk' : k = n := by omega
      subst hk'
      exact ⟨by rw [firstTrue_miss bs (by rw [Hf.out.1, H.out.len]; exact hn.out)]; rfl, hb.out⟩

theorem ContainsFunc_ints (f : FuncId) (cs : Array Value) (a : Option Addr) (n c : Nat) (vs : List Value) (bs : List Bool) (w : World) (h : Sl1 w a n c vs)
  (eg : ∀ args w, (callFunc f args).run Try.prog w = .ok (.enter f args) w) (hf : Answers Try.prog f cs w vs bs) :
    Calls Try.prog 24 #[.slice a n c, .func (.func f) #[] cs] w (Ends (bs.any id) w) := by
  rw [← firstTrue_any]
  have H := Lib.hid h
  have Hf := Lib.hid hf
  clear h hf
  go_enter Try.func24, Try.ntmps24
  go_wp2_with (go_at_call 41; refine (IndexFunc_ints f cs a n c vs bs _ H.out eg Hf.out).mono ?_; rintro e w1 ⟨rfl, hb⟩)
  go_ret
  exact ⟨by simp, hb⟩

theorem IndexFunc_causes (f : FuncId) (cs : Array Value) (a : Option Addr) (n c : Nat) (vs : List Value) (bs : List Bool) (w : World) (h : Sl1 w a n c vs)
  (eg : ∀ args w, (callFunc f args).run Try.prog w = .ok (.enter f args) w) (hf : Answers Try.prog f cs w vs bs) :
    Calls Try.prog 73 #[.slice a n c, .func (.func f) #[] cs] w fun e w' => e = .returned (.int .i64 (firstTrue bs)) ∧ Below w.heap.size w w' := by
  have hcap := h.cap
  have hbig := h.big
  have H := Lib.hid h
  have Hf := Lib.hid hf
  clear h hf
  go_enter Try.func73, Try.ntmps73
  go_wp2
  go_loopg [5, 8] n (fun g _ j wr => ∃ k : Nat, k ≤ n ∧ n - k ≤ g ∧ j = .int .i64 k ∧ Aside (noneTrue bs k) ∧ Aside (Below w.heap.size w wr))
  case atStart => exact ⟨0, Nat.zero_le _, Nat.le_refl _, rfl, noneTrue_zero _, Below.refl _ _⟩
  case round =>
    obtain ⟨k, hk, hg, rfl, hn, hb⟩ := hrel
    by_cases hlt : k < n
    · obtain ⟨y, hy⟩ := H.out.get hlt
      obtain ⟨bk, hbk⟩ : ∃ b, bs[k]? = some b := ⟨bs[k]'(by rw [Hf.out.1, H.out.len]; exact hlt), List.getElem?_eq_getElem _⟩
      have hcall := Hf.out.2 k y bk wr hy hbk hb.out
      obtain ⟨b, o, rfl, hbs, hcell⟩ := (H.out.below hb.out).mem k y hy
      have Hbk := Lib.hid hbk
      clear hbk hy
      go_wp2_with (go_at_fn f; refine hcall.mono ?_; rintro e w2 ⟨rfl, hb2⟩)
      · go_ret
        subst bk
        exact ⟨by rw [firstTrue_hit bs k Hbk.out hn.out]; rfl, hb.out.trans (hb2.mono hb.out.size)⟩
      · go_roundg (n - (k+1))
        case measure => omega
        case rel => 
          subst bk
          exact ⟨k+1, by omega, by omega, by go_num, noneTrue_succ hn.out Hbk.out, hb.out.trans (hb2.mono hb.out.size)⟩
    · go_wp2
      go_ret
      have hk' : k = n := by omega
      subst hk'
      exact ⟨by rw [firstTrue_miss bs (by rw [Hf.out.1, H.out.len]; exact hn.out)]; rfl, hb.out⟩

theorem IndexFunc_shift (f : FuncId) (cs : Array Value) (a : Option Addr) (n c : Nat) (rows : List (List Value)) (bs : List Bool) (w : World) (h : SlK 2 w a n c rows)
  (eg : ∀ args w, (callFunc f args).run Try.prog w = .ok (.enter f args) w) (hf : Answers Try.prog f cs w (aggs rows) bs) :
    Calls Try.prog 25 #[.slice a n c, .func (.func f) #[] cs] w fun e w' => e = .returned (.int .i64 (firstTrue bs)) ∧ Below w.heap.size w w' := by
  have hcap := h.cap
  have hbig := h.big
  have H := Lib.hid h
  have Hf := Lib.hid hf
  clear h hf
  go_enter Try.func25, Try.ntmps25
  go_wp2
  go_loopg [5, 8] n (fun g _ j wr => ∃ k : Nat, k ≤ n ∧ n - k ≤ g ∧ j = .int .i64 k ∧ Aside (noneTrue bs k) ∧ Aside (Below w.heap.size w wr))
  case atStart => exact ⟨0, Nat.zero_le _, Nat.le_refl _, rfl, noneTrue_zero _, Below.refl _ _⟩
  case round =>
    obtain ⟨k, hk, hg, rfl, hn, hb⟩ := hrel
    by_cases hlt : k < n
    · obtain ⟨y, hy⟩ := H.out.get hlt
      obtain ⟨bk, hbk⟩ : ∃ b, bs[k]? = some b := ⟨bs[k]'(by rw [Hf.out.1, aggs_length, H.out.len]; exact hlt), List.getElem?_eq_getElem _⟩
      have hcall := Hf.out.2 k _ bk wr (aggs_get hy) hbk hb.out
      obtain ⟨b, o, rfl, hbs, hyl, hcell⟩ := (H.out.below hb.out).mem k y hy
      obtain ⟨c0, c1, rfl⟩ := len2 hyl
      have h0 : wr.cell? ⟨b, o + k * 2, none⟩ = some c0 := hcell 0 c0 rfl
      have h1 : wr.cell? ⟨b, o + k * 2 + 1, none⟩ = some c1 := hcell 1 c1 rfl
      have Hbk := Lib.hid hbk
      clear hbk hy hcell hyl
      go_wp2_with (go_at_fn f; refine hcall.mono ?_; rintro e w2 ⟨rfl, hb2⟩)
      · go_ret
        subst bk
        exact ⟨by rw [firstTrue_hit bs k Hbk.out hn.out]; rfl, hb.out.trans (hb2.mono hb.out.size)⟩
      · go_roundg (n - (k+1))
        case measure => omega
        case rel => 
          subst bk
          exact ⟨k+1, by omega, by omega, by go_num, noneTrue_succ hn.out Hbk.out, hb.out.trans (hb2.mono hb.out.size)⟩
    · go_wp2
      go_ret
      have hk' : k = n := by omega
      subst hk'
      exact ⟨by rw [firstTrue_miss bs (by rw [Hf.out.1, aggs_length, H.out.len]; exact hn.out)]; rfl, hb.out⟩

theorem ContainsFunc_shift (f : FuncId) (cs : Array Value) (a : Option Addr) (n c : Nat) (rows : List (List Value)) (bs : List Bool) (w : World) (h : SlK 2 w a n c rows)
  (eg : ∀ args w, (callFunc f args).run Try.prog w = .ok (.enter f args) w) (hf : Answers Try.prog f cs w (aggs rows) bs) :
    Calls Try.prog 13 #[.slice a n c, .func (.func f) #[] cs] w (Ends (bs.any id) w) := by
  rw [← firstTrue_any]
  have H := Lib.hid h
  have Hf := Lib.hid hf
  clear h hf
  go_enter Try.func13, Try.ntmps13
  go_wp2_with (go_at_call 25; refine (IndexFunc_shift f cs a n c rows bs _ H.out eg Hf.out).mono ?_; rintro e w1 ⟨rfl, hb⟩)
  go_ret
  exact ⟨by simp, hb⟩

theorem IndexFunc_cause (f : FuncId) (cs : Array Value) (a : Option Addr) (n c : Nat) (rows : List (List Value)) (bs : List Bool) (w : World) (h : SlK 3 w a n c rows)
  (eg : ∀ args w, (callFunc f args).run Try.prog w = .ok (.enter f args) w) (hf : Answers Try.prog f cs w (aggs rows) bs) :
    Calls Try.prog 65 #[.slice a n c, .func (.func f) #[] cs] w fun e w' => e = .returned (.int .i64 (firstTrue bs)) ∧ Below w.heap.size w w' := by
  have hcap := h.cap
  have hbig := h.big
  have H := Lib.hid h
  have Hf := Lib.hid hf
  clear h hf
  go_enter Try.func65, Try.ntmps65
  go_wp2
  go_loopg [5, 8] n (fun g _ j wr => ∃ k : Nat, k ≤ n ∧ n - k ≤ g ∧ j = .int .i64 k ∧ Aside (noneTrue bs k) ∧ Aside (Below w.heap.size w wr))
  case atStart => exact ⟨0, Nat.zero_le _, Nat.le_refl _, rfl, noneTrue_zero _, Below.refl _ _⟩
  case round =>
    obtain ⟨k, hk, hg, rfl, hn, hb⟩ := hrel
    by_cases hlt : k < n
    · obtain ⟨y, hy⟩ := H.out.get hlt
      obtain ⟨bk, hbk⟩ : ∃ b, bs[k]? = some b := ⟨bs[k]'(by rw [Hf.out.1, aggs_length, H.out.len]; exact hlt), List.getElem?_eq_getElem _⟩
      have hcall := Hf.out.2 k _ bk wr (aggs_get hy) hbk hb.out
      obtain ⟨b, o, rfl, hbs, hyl, hcell⟩ := (H.out.below hb.out).mem k y hy
      obtain ⟨c0, c1, c2, rfl⟩ := len3 hyl
      have h0 : wr.cell? ⟨b, o + k * 3, none⟩ = some c0 := hcell 0 c0 rfl
      have h1 : wr.cell? ⟨b, o + k * 3 + 1, none⟩ = some c1 := hcell 1 c1 rfl
      have h2 : wr.cell? ⟨b, o + k * 3 + 2, none⟩ = some c2 := hcell 2 c2 rfl
      have Hbk := Lib.hid hbk
      clear hbk hy hcell hyl
      go_wp2_with (go_at_fn f; refine hcall.mono ?_; rintro e w2 ⟨rfl, hb2⟩)
      · go_ret
        subst bk
        exact ⟨by rw [firstTrue_hit bs k Hbk.out hn.out]; rfl, hb.out.trans (hb2.mono hb.out.size)⟩
      · go_roundg (n - (k+1))
        case measure => omega
        case rel => 
          subst bk
          exact ⟨k+1, by omega, by omega, by go_num, noneTrue_succ hn.out Hbk.out, hb.out.trans (hb2.mono hb.out.size)⟩
    · go_wp2
      go_ret
      have hk' : k = n := by omega
      subst hk'
      exact ⟨by rw [firstTrue_miss bs (by rw [Hf.out.1, aggs_length, H.out.len]; exact hn.out)]; rfl, hb.out⟩

theorem ContainsFunc_cause (f : FuncId) (cs : Array Value) (a : Option Addr) (n c : Nat) (rows : List (List Value)) (bs : List Bool) (w : World) (h : SlK 3 w a n c rows)
  (eg : ∀ args w, (callFunc f args).run Try.prog w = .ok (.enter f args) w) (hf : Answers Try.prog f cs w (aggs rows) bs) :
    Calls Try.prog 44 #[.slice a n c, .func (.func f) #[] cs] w (Ends (bs.any id) w) := by
  rw [← firstTrue_any]
  have H := Lib.hid h
  have Hf := Lib.hid hf
  clear h hf
  go_enter Try.func44, Try.ntmps44
  go_wp2_with (go_at_call 65; refine (IndexFunc_cause f cs a n c rows bs _ H.out eg Hf.out).mono ?_; rintro e w1 ⟨rfl, hb⟩)
  go_ret
  exact ⟨by simp, hb⟩

theorem IndexFunc_look (f : FuncId) (cs : Array Value) (a : Option Addr) (n c : Nat) (rows : List (List Value)) (bs : List Bool) (w : World) (h : SlK 4 w a n c rows)
  (eg : ∀ args w, (callFunc f args).run Try.prog w = .ok (.enter f args) w) (hf : Answers Try.prog f cs w (aggs rows) bs) :
    Calls Try.prog 75 #[.slice a n c, .func (.func f) #[] cs] w fun e w' => e = .returned (.int .i64 (firstTrue bs)) ∧ Below w.heap.size w w' := by
  have hcap := h.cap
  have hbig := h.big
  have H := Lib.hid h
  have Hf := Lib.hid hf
  clear h hf
  go_enter Try.func75, Try.ntmps75
  go_wp2
  go_loopg [5, 8] n (fun g _ j wr => ∃ k : Nat, k ≤ n ∧ n - k ≤ g ∧ j = .int .i64 k ∧ Aside (noneTrue bs k) ∧ Aside (Below w.heap.size w wr))
  case atStart => exact ⟨0, Nat.zero_le _, Nat.le_refl _, rfl, noneTrue_zero _, Below.refl _ _⟩
  case round =>
    obtain ⟨k, hk, hg, rfl, hn, hb⟩ := hrel
    by_cases hlt : k < n
    · obtain ⟨y, hy⟩ := H.out.get hlt
      obtain ⟨bk, hbk⟩ : ∃ b, bs[k]? = some b := ⟨bs[k]'(by rw [Hf.out.1, aggs_length, H.out.len]; exact hlt), List.getElem?_eq_getElem _⟩
      have hcall := Hf.out.2 k _ bk wr (aggs_get hy) hbk hb.out
      obtain ⟨b, o, rfl, hbs, hyl, hcell⟩ := (H.out.below hb.out).mem k y hy
      obtain ⟨c0, c1, c2, c3, rfl⟩ := len4 hyl
      have h0 : wr.cell? ⟨b, o + k * 4, none⟩ = some c0 := hcell 0 c0 rfl
      have h1 : wr.cell? ⟨b, o + k * 4 + 1, none⟩ = some c1 := hcell 1 c1 rfl
      have h2 : wr.cell? ⟨b, o + k * 4 + 2, none⟩ = some c2 := hcell 2 c2 rfl
      have h3 : wr.cell? ⟨b, o + k * 4 + 3, none⟩ = some c3 := hcell 3 c3 rfl
      have Hbk := Lib.hid hbk
      clear hbk hy hcell hyl
      go_wp2_with (go_at_fn f; refine hcall.mono ?_; rintro e w2 ⟨rfl, hb2⟩)
      · go_ret
        subst bk
        exact ⟨by rw [firstTrue_hit bs k Hbk.out hn.out]; rfl, hb.out.trans (hb2.mono hb.out.size)⟩
      · go_roundg (n - (k+1))
        case measure => omega
        case rel => 
          subst bk
          exact ⟨k+1, by omega, by omega, by go_num, noneTrue_succ hn.out Hbk.out, hb.out.trans (hb2.mono hb.out.size)⟩
    · go_wp2
      go_ret
      have hk' : k = n := by omega
      subst hk'
      exact ⟨by rw [firstTrue_miss bs (by rw [Hf.out.1, aggs_length, H.out.len]; exact hn.out)]; rfl, hb.out⟩

theorem ContainsFunc_look (f : FuncId) (cs : Array Value) (a : Option Addr) (n c : Nat) (rows : List (List Value)) (bs : List Bool) (w : World) (h : SlK 4 w a n c rows)
  (eg : ∀ args w, (callFunc f args).run Try.prog w = .ok (.enter f args) w) (hf : Answers Try.prog f cs w (aggs rows) bs) :
    Calls Try.prog 60 #[.slice a n c, .func (.func f) #[] cs] w (Ends (bs.any id) w) := by
  rw [← firstTrue_any]
  have H := Lib.hid h
  have Hf := Lib.hid hf
  clear h hf
  go_enter Try.func60, Try.ntmps60
  go_wp2_with (go_at_call 75; refine (IndexFunc_look f cs a n c rows bs _ H.out eg Hf.out).mono ?_; rintro e w1 ⟨rfl, hb⟩)
  go_ret
  exact ⟨by simp, hb⟩

theorem glue_within1 (n lo hi : Int) (p q : Addr) (w : World) (hp : w.cell? p = some (.int .i64 lo)) (hq : w.cell? q = some (.int .i64 hi)) :
    Calls Try.prog 45 #[.int .i64 n, .pointer (some p), .pointer (some q)] w (Ends (outside lo hi n) w) := by
  by_cases h : n < lo
  · have e : outside lo hi n = true := by simp [outside, h]
    rw [e]
    go_enter Try.func45, Try.ntmps45
    go_wp2
    go_ret
    exact ⟨by simp, Below.refl _ _⟩
  · have e : outside lo hi n = decide (hi < n) := by simp [outside, h]
    rw [e]
    go_enter Try.func45, Try.ntmps45
    go_wp2
    go_ret
    exact ⟨by simp, Below.refl _ _⟩
theorem eg_glue_within1 : ∀ args w, (callFunc 45 args).run Try.prog w = .ok (.enter 45 args) w := enters_of Try.func45 (by kernel_rfl) rfl

theorem glue_within (lo hi : Int) (a : Option Addr) (n c : Nat) (l : List Int) (w : World) (h : Sl1 w a n c (ints l)) :
    Calls Try.prog 29 #[.int .i64 lo, .int .i64 hi, .slice a n c] w (Ends (!(l.any (outside lo hi))) w) := by
  have H := Lib.hid h
  clear h
  go_enter Try.func29, Try.ntmps29
  go_wp2_with fail
  have hb := below_alloc2 w (.cells #[.int .i64 lo] 3) (.cells #[.int .i64 hi] 3)
  refine (ContainsFunc_int 45 _ a n c (ints l) (l.map (outside lo hi)) _ (H.out.below hb) eg_glue_within1 (Answers.of_map l fun x w1 hx hw => ?_)).mono ?_
  · exact glue_within1 x lo hi _ _ w1 (cell_later (by simp [go_sem]) hw) (cell_later (by simp [go_sem]) hw)
  · rintro e w1 ⟨rfl, hw⟩
    go_wp2
    go_ret
    refine ⟨?_, below_tr hb hw⟩
    simp [List.any_map, Function.comp_def]

theorem print_within1 (n lo hi : Int) (p q : Addr) (w : World) (hp : w.cell? p = some (.int .i64 lo)) (hq : w.cell? q = some (.int .i64 hi)) :
    Calls Try.prog 40 #[.int .i64 n, .pointer (some p), .pointer (some q)] w (Ends (outside lo hi n) w) := by
  by_cases h : n < lo
  · have e : outside lo hi n = true := by simp [outside, h]
    rw [e]
    go_enter Try.func40, Try.ntmps40
    go_wp2
    go_ret
    exact ⟨by simp, Below.refl _ _⟩
  · have e : outside lo hi n = decide (hi < n) := by simp [outside, h]
    rw [e]
    go_enter Try.func40, Try.ntmps40
    go_wp2
    go_ret
    exact ⟨by simp, Below.refl _ _⟩
theorem eg_print_within1 : ∀ args w, (callFunc 40 args).run Try.prog w = .ok (.enter 40 args) w := enters_of Try.func40 (by kernel_rfl) rfl

theorem print_within (lo hi : Int) (a : Option Addr) (n c : Nat) (l : List Int) (w : World) (h : Sl1 w a n c (ints l)) :
    Calls Try.prog 23 #[.int .i64 lo, .int .i64 hi, .slice a n c] w (Ends (!(l.any (outside lo hi))) w) := by
  have H := Lib.hid h
  clear h
  go_enter Try.func23, Try.ntmps23
  go_wp2_with fail
  have hb := below_alloc2 w (.cells #[.int .i64 lo] 3) (.cells #[.int .i64 hi] 3)
  refine (ContainsFunc_int 40 _ a n c (ints l) (l.map (outside lo hi)) _ (H.out.below hb) eg_print_within1 (Answers.of_map l fun x w1 hx hw => ?_)).mono ?_
  · exact print_within1 x lo hi _ _ w1 (cell_later (by simp [go_sem]) hw) (cell_later (by simp [go_sem]) hw)
  · rintro e w1 ⟨rfl, hw⟩
    go_wp2
    go_ret
    refine ⟨?_, below_tr hb hw⟩
    simp [List.any_map, Function.comp_def]

end Go.Proofs.X
