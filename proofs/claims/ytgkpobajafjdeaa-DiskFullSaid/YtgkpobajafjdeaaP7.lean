/- The laws’ helpers: Cmp, EqImage, few, play, seen, find; arguments opened. -/
import Derived.Test.YtgkpobajafjdeaaP5
/- tallyref0's Cmp, Eq, EqImage; image: bytes and files with bytes, compared. -/
namespace Go.Proofs.Ytgkpobajafjdeaa
open Go.RowKit Go.Maps

/-- Bytes that can be read. -/
def Rd (w : World) (A : Option Addr) (b : BS) : Prop := ∀ (k : Nat) (c : UInt8), b[k]? = some c → ∃ g o, A = some ⟨g, o, none⟩ ∧ w.cell? ⟨g, o + k, none⟩ = some (byteV c)
def QuietEnd (v : Value) (w : World) (e : Ending) (w' : World) : Prop := e = .returned v ∧ ∃ n, w' = w.drewN n
theorem Rd.below {w w' : World} {A : Option Addr} {b : BS} (h : Rd w A b) (hb : Below w.heap.size w w') : Rd w' A b := fun k c hk => by
  obtain ⟨g, o, e, hc⟩ := h k c hk
  exact ⟨g, o, e, cellKeep hb hc⟩
theorem Rd.drewN {w : World} {A : Option Addr} {b : BS} (h : Rd w A b) (n : Nat) : Rd (w.drewN n) A b := h
theorem One.rd {w : World} {base cap : Nat} {A : Option Addr} {b : BS} (h : One w base 5 1 (.slice A b.length cap) b.length (cB b)) : Rd w A b := fun k c hk => by
  have hl := (List.getElem?_eq_some_iff.1 hk).1
  obtain ⟨g, e, hc⟩ := h.getN (k := k) (by omega) (by omega)
  exact ⟨g, 0, e, by rw [Nat.zero_add, hc, cB_at hk]⟩
def cmpV : BS → BS → Int
  | [], [] => 0
  | [], _ :: _ => -1
  | _ :: _, [] => 1
  | x :: r, y :: s => if x < y then -1 else if y < x then 1 else cmpV r s
theorem cmpV_zero : ∀ (a b : BS), cmpV a b = 0 ↔ a = b
  | [], [] => by simp [cmpV]
  | [], y :: s => by simp [cmpV]
  | x :: r, [] => by simp [cmpV]
  | x :: r, y :: s => by
    unfold cmpV
    split
    · rename_i h
      constructor
      · intro h; cases h
      · intro e; injection e with e _; subst e; exact absurd h (UInt8.lt_irrefl x)
    · split
      · rename_i h
        constructor
        · intro h; cases h
        · intro e; injection e with e _; subst e; exact absurd h (UInt8.lt_irrefl x)
      · rename_i h1 h2
        have e : x = y := UInt8.le_antisymm (UInt8.not_lt.1 h2) (UInt8.not_lt.1 h1)
        subst e
        rw [cmpV_zero r s]
        simp
theorem cmpV_step {a b : BS} {k : Nat} {x y : UInt8} (hx : a[k]? = some x) (hy : b[k]? = some y) : cmpV (a.drop k) (b.drop k) = if x < y then -1 else if y < x then 1 else cmpV (a.drop (k + 1)) (b.drop (k + 1)) := by
  have hk := (List.getElem?_eq_some_iff.1 hx)
  have hj := (List.getElem?_eq_some_iff.1 hy)
  obtain ⟨h1, e1⟩ := hk
  obtain ⟨h2, e2⟩ := hj
  rw [List.drop_eq_getElem_cons h1, List.drop_eq_getElem_cons h2, e1, e2]
  rfl
theorem cmpV_end1 {a b : BS} {k : Nat} (h1 : k = a.length) (h2 : k < b.length) : cmpV (a.drop k) (b.drop k) = -1 := by
  rw [h1, List.drop_length, ← h1, List.drop_eq_getElem_cons h2]
  rfl
theorem cmpV_end2 {a b : BS} {k : Nat} (h1 : k < a.length) (h2 : k = b.length) : cmpV (a.drop k) (b.drop k) = 1 := by
  rw [h2, List.drop_length, ← h2, List.drop_eq_getElem_cons h1]
  rfl
theorem cmpV_end0 {a b : BS} {k : Nat} (h1 : k = a.length) (h2 : k = b.length) : cmpV (a.drop k) (b.drop k) = 0 := by
  rw [List.drop_eq_nil_of_le (by omega), List.drop_eq_nil_of_le (by omega)]
  rfl
theorem w64b {k : Nat} (h : k ≤ 1000000000000) : wrap64 ((k : Int) + 1) = ((k + 1 : Nat) : Int) := by
  unfold wrap64
  omega
theorem less_meas {k n : Nat} (h : k < n) : ((n : Int) - intOf (Value.int .i64 ((k + 1 : Nat) : Int))).toNat < ((n : Int) - intOf (Value.int .i64 (k : Int))).toNat := by
  simp [intOf]
  omega
def CmpRel (w : World) (a b : BS) (na nb : Nat) (iv : Value) (wr : World) : Prop := ∃ k : Nat, iv = .int .i64 k ∧ k ≤ na ∧ k ≤ nb ∧ cmpV a b = cmpV (a.drop k) (b.drop k) ∧ ∃ n, wr = w.drewN n
set_option maxRecDepth 100000 in
set_option maxHeartbeats 2000000 in
theorem cmp_any (w : World) (A B : Option Addr) (a b : BS) (na nb ca cb : Nat) (hna : a.length = na) (hnb : b.length = nb) (ha : Rd w A a) (hb : Rd w B b) (hA : na ≤ 1000000000000) :
    Calls Try.prog 42 #[.slice A na ca, .slice B nb cb] w (QuietEnd (.int .i64 (cmpV a b)) w) := by
  have HNA := Lib.hid hna
  have HNB := Lib.hid hnb
  have HA := Lib.hid ha
  have HB := Lib.hid hb
  have HLA := Lib.hid hA
  clear hna hnb ha hb hA
  go_enter Try.func42, Try.ntmps42
  go_wp2
  go_loopw [5] (fun iv wr => CmpRel w a b na nb iv wr) (fun iv _ => (na - intOf iv).toNat)
  case atStart => exact ⟨0, rfl, Nat.zero_le _, Nat.zero_le _, rfl, 0, rfl⟩
  case round =>
    obtain ⟨k, rfl, hk1, hk2, hv, n, rfl⟩ := hrel
    have HV := Lib.hid hv
    clear hv
    by_cases hl1 : k < na
    · have q1 : (k : Int) < (na : Int) := by omega
      by_cases hl2 : k < nb
      · have q2 : (k : Int) < (nb : Int) := by omega
        obtain ⟨x, hx⟩ : ∃ x, a[k]? = some x := ⟨a[k]'(by rw [HNA.out]; exact hl1), List.getElem?_eq_getElem _⟩
        obtain ⟨y, hy⟩ : ∃ y, b[k]? = some y := ⟨b[k]'(by rw [HNB.out]; exact hl2), List.getElem?_eq_getElem _⟩
        obtain ⟨g1, o1, rfl, d1⟩ := HA.out k x hx
        obtain ⟨g2, o2, rfl, d2⟩ := HB.out k y hy
        have hst := cmpV_step hx hy
        rw [← HV.out] at hst
        unfold byteV at d1 d2
        have HS := Lib.hid hst
        have HW := Lib.hid (w64b (k := k) (by have := HLA.out; omega))
        clear hx hy hst
        rcases Nat.lt_trichotomy x.toNat y.toNat with h | h | h
        · have t1 : decide (x.toNat < y.toNat) = true := by simpa using h
          have HR := Lib.hid (show cmpV a b = -1 by rw [HS.out, if_pos (UInt8.lt_iff_toNat_lt.2 h)])
          clear h
          go_wp2
          go_quiet (fail)
          go_wp2
          go_ret
          exact ⟨by rw [HR.out]; rfl, by first | exact ⟨_, rfl⟩ | (simp only [World.drewN_drewN]; exact ⟨_, rfl⟩)⟩
        · have t1 : decide (x.toNat < y.toNat) = false := by simp; omega
          have t2 : decide (y.toNat < x.toNat) = false := by simp; omega
          have HR := Lib.hid (show cmpV a b = cmpV (a.drop (k + 1)) (b.drop (k + 1)) by rw [HS.out, if_neg (fun e => by have := UInt8.lt_iff_toNat_lt.1 e; omega), if_neg (fun e => by have := UInt8.lt_iff_toNat_lt.1 e; omega)])
          clear h
          go_wp2
          go_quiet (fail)
          go_wp2
          go_quiet (fail)
          go_wp2
          exact ⟨⟨k + 1, congrArg _ HW.out, hl1, hl2, HR.out, by first | exact ⟨_, rfl⟩ | (simp only [World.drewN_drewN]; exact ⟨_, rfl⟩)⟩, by rw [HW.out]; exact less_meas hl1⟩
        · have t1 : decide (x.toNat < y.toNat) = false := by simp; omega
          have t2 : decide (y.toNat < x.toNat) = true := by simpa using h
          have HR := Lib.hid (show cmpV a b = 1 by rw [HS.out, if_neg (fun e => by have := UInt8.lt_iff_toNat_lt.1 e; omega), if_pos (UInt8.lt_iff_toNat_lt.2 h)])
          clear h
          go_wp2
          go_quiet (fail)
          go_wp2
          go_quiet (fail)
          go_wp2
          go_ret
          exact ⟨by rw [HR.out]; rfl, by first | exact ⟨_, rfl⟩ | (simp only [World.drewN_drewN]; exact ⟨_, rfl⟩)⟩
      · have q2 : decide ((k : Int) < (nb : Int)) = false := by simp; omega
        have t1 : decide (na < nb) = false := by simp; omega
        have t2 : decide (nb < na) = true := by simp; omega
        have HR := Lib.hid (show cmpV a b = 1 by rw [HV.out]; exact cmpV_end2 (by rw [HNA.out]; exact hl1) (by rw [HNB.out]; omega))
        go_wp2
        go_ret
        exact ⟨by rw [HR.out]; rfl, _, rfl⟩
    · have q1 : decide ((k : Int) < (na : Int)) = false := by simp; omega
      by_cases hl2 : k < nb
      · have t1 : decide (na < nb) = true := by simp; omega
        have HR := Lib.hid (show cmpV a b = -1 by rw [HV.out]; exact cmpV_end1 (by rw [HNA.out]; omega) (by rw [HNB.out]; exact hl2))
        go_wp2
        go_ret
        exact ⟨by rw [HR.out]; rfl, _, rfl⟩
      · have t1 : decide (na < nb) = false := by simp; omega
        have t2 : decide (nb < na) = false := by simp; omega
        have HR := Lib.hid (show cmpV a b = 0 by rw [HV.out]; exact cmpV_end0 (by rw [HNA.out]; omega) (by rw [HNB.out]; omega))
        go_wp2
        go_ret
        exact ⟨by rw [HR.out]; rfl, _, rfl⟩
theorem eq_any (w : World) (A B : Option Addr) (a b : BS) (na nb ca cb : Nat) (hna : a.length = na) (hnb : b.length = nb) (ha : Rd w A a) (hb : Rd w B b) (hA : na ≤ 1000000000000) :
    Calls Try.prog 19 #[.slice A na ca, .slice B nb cb] w (QuietEnd (.bool (decide (a = b))) w) := by
  have hc := cmp_any w A B a b na nb ca cb hna hnb ha hb hA
  have HC := Lib.hid hc
  have hv : (cmpV a b == 0) = decide (a = b) := by
    by_cases h : a = b
    · rw [decide_eq_true h, (cmpV_zero a b).2 h]; rfl
    · rw [decide_eq_false h]
      have := fun e => h ((cmpV_zero a b).1 e)
      simpa using this
  obtain ⟨z, hz⟩ : ∃ z, cmpV a b = z := ⟨_, rfl⟩
  rw [hz] at hv HC
  clear hna hnb ha hb hA hc hz
  go_enter Try.func19, Try.ntmps19
  go_wp2_with (go_at_call 42; (with_reducible refine HC.out.mono ?_); rintro e w1 ⟨rfl, n, rfl⟩)
  go_ret
  exact ⟨by rw [← hv]; rfl, _, rfl⟩
/-- Files with bytes that can be read. -/
def RdI (w : World) (A : Option Addr) (img : List (BS × BS)) : Prop := ∀ (k : Nat) (x : BS × BS), img[k]? = some x → ∃ g o Ad cap, A = some ⟨g, o, none⟩ ∧ w.cell? ⟨g, o + k * 2, none⟩ = some (.string (str x.1)) ∧ w.cell? ⟨g, o + k * 2 + 1, none⟩ = some (.slice Ad x.2.length cap) ∧ Rd w Ad x.2 ∧ x.2.length ≤ cap
theorem RdI.below {w w' : World} {A : Option Addr} {img : List (BS × BS)} (h : RdI w A img) (hb : Below w.heap.size w w') : RdI w' A img := fun k x hk => by
  obtain ⟨g, o, Ad, cap, e, c1, c2, c3, c4⟩ := h k x hk
  exact ⟨g, o, Ad, cap, e, cellKeep hb c1, cellKeep hb c2, c3.below hb, c4⟩
theorem ImgAt.rdI {w : World} {base n cap : Nat} {A : Option Addr} {img : List (BS × BS)} (h : ImgAt w base (.slice A n cap) img) : RdI w A img := fun k x hk => by
  obtain ⟨l, h1, h2, h3⟩ := h
  have hl := (List.getElem?_eq_some_iff.1 hk).1
  obtain ⟨v, e, ho⟩ := h3 k x hk
  obtain ⟨_, _, e2, _⟩ := h1.len2
  injection e2 with _ e2 _
  subst e2
  obtain ⟨g, e3, c1⟩ := h1.getN (k := k * 2) (by omega) (by omega)
  obtain ⟨g', e4, c2⟩ := h1.getN (k := k * 2 + 1) (by omega) (by omega)
  rw [e3] at e4
  injection e4 with e4
  injection e4 with e4
  subst e4
  obtain ⟨Ad, cp, rfl, hc⟩ := ho.len2
  refine ⟨g, 0, Ad, cp, e3, ?_, ?_, ho.rd, hc⟩
  · rw [Nat.zero_add, c1]
    unfold cI
    rw [if_pos (by omega), show k * 2 / 2 = k by omega, e]
    rfl
  · rw [Nat.zero_add, c2]
    unfold cI
    rw [if_neg (by omega), show (k * 2 + 1) / 2 = k by omega, e]
    rfl
def ImRel (w : World) (a b : List (BS × BS)) (na : Nat) (iv : Value) (wr : World) : Prop := ∃ k : Nat, iv = .int .i64 k ∧ k ≤ na ∧ a.take k = b.take k ∧ ∃ n, wr = w.drewN n
theorem str_inj {a b : BS} (h : str a = str b) : a = b := by
  have := congrArg (fun s => s.data.toList) h
  simpa [str] using this
theorem take_eq_more {a b : List (BS × BS)} {k : Nat} {x : BS × BS} (h : a.take k = b.take k) (ha : a[k]? = some x) (hb : b[k]? = some x) : a.take (k + 1) = b.take (k + 1) := by
  rw [List.take_add_one, List.take_add_one, h, ha, hb]
set_option maxRecDepth 100000 in
set_option maxHeartbeats 4000000 in
theorem eqImage_any (w : World) (A B : Option Addr) (a b : List (BS × BS)) (na nb ca cb : Nat) (hna : a.length = na) (hnb : b.length = nb) (ha : RdI w A a) (hb : RdI w B b) (hA : na ≤ 1000000000000) (hL : ∀ x ∈ a, x.2.length ≤ 1000000000000) :
    Calls Try.prog 43 #[.slice A na ca, .slice B nb cb] w (QuietEnd (.bool (decide (a = b))) w) := by
  have HNA := Lib.hid hna
  have HNB := Lib.hid hnb
  have HA := Lib.hid ha
  have HB := Lib.hid hb
  have HLA := Lib.hid hA
  have HLX := Lib.hid hL
  clear hna hnb ha hb hA hL
  by_cases hl : na = nb
  · subst hl
    have t0 : ((na : Int) != (na : Int)) = false := by simp
    go_enter Try.func43, Try.ntmps43
    go_wp2
    go_loopw [5] (fun iv wr => ImRel w a b na iv wr) (fun iv _ => (na - intOf iv).toNat)
    case atStart => exact ⟨0, rfl, Nat.zero_le _, rfl, 0, rfl⟩
    case round =>
      obtain ⟨k, rfl, hk1, hv, n, rfl⟩ := hrel
      have HV := Lib.hid hv
      clear hv
      by_cases hl1 : k < na
      · have q1 : (k : Int) < (na : Int) := by omega
        obtain ⟨x, hx⟩ : ∃ x, a[k]? = some x := ⟨a[k]'(by rw [HNA.out]; exact hl1), List.getElem?_eq_getElem _⟩
        obtain ⟨y, hy⟩ : ∃ y, b[k]? = some y := ⟨b[k]'(by rw [HNB.out]; exact hl1), List.getElem?_eq_getElem _⟩
        obtain ⟨g1, o1, Ad, cp, rfl, d1, d2, rx, _⟩ := HA.out k x hx
        obtain ⟨g2, o2, Be, cq, rfl, e1, e2, ry, _⟩ := HB.out k y hy
        have HW := Lib.hid (w64b (k := k) (by have := HLA.out; omega))
        have HX := Lib.hid hx
        have HY := Lib.hid hy
        by_cases hn : x.1 = y.1
        · rw [← hn] at e1
          have hc : ∀ m, Calls Try.prog 42 #[.slice Ad x.2.length cp, .slice Be y.2.length cq] (w.drewN (n + m)) fun e w' => e = .returned (.int .i64 (cmpV x.2 y.2)) ∧ ∃ m', w' = (w.drewN (n + m)).drewN m' := fun m => cmp_any (w.drewN (n + m)) Ad Be x.2 y.2 x.2.length y.2.length cp cq rfl rfl rx ry (HLX.out x (List.mem_of_getElem? hx))
          have HC := Lib.hid hc
          obtain ⟨z, hz⟩ : ∃ z, cmpV x.2 y.2 = z := ⟨_, rfl⟩
          rw [hz] at HC
          obtain ⟨lx2, hlx⟩ : ∃ lx2, x.2.length = lx2 := ⟨_, rfl⟩
          obtain ⟨ly2, hly⟩ : ∃ ly2, y.2.length = ly2 := ⟨_, rfl⟩
          obtain ⟨s1, hs1⟩ : ∃ s1, str x.1 = s1 := ⟨_, rfl⟩
          rw [hlx, hly] at HC
          rw [hlx] at d2
          rw [hly] at e2
          rw [hs1] at d1 e1
          have t1 := str_same s1
          clear hx hy rx ry hc hlx hly hs1
          by_cases hz0 : z = 0
          · have t2 : (z != 0) = false := by simp [hz0]
            have HE := Lib.hid (show x = y from Prod.ext hn ((cmpV_zero _ _).1 (hz.trans hz0)))
            clear hz hz0 hn
            go_wp2
            go_quiet ((go_at_call 42; exact quietAdd (HC.out _)))
            go_wp2
            exact ⟨⟨k + 1, congrArg _ HW.out, hl1, take_eq_more HV.out HX.out (by rw [HE.out]; exact HY.out), by first | exact ⟨_, rfl⟩ | (simp only [World.drewN_drewN]; exact ⟨_, rfl⟩)⟩, by rw [HW.out]; exact less_meas hl1⟩
          · have t2 : (z != 0) = true := by simp [hz0]
            have HE := Lib.hid (show ¬ a = b from fun e => hz0 (by
              have h1 := HX.out
              rw [e, HY.out] at h1
              injection h1 with h1
              rw [← hz, h1]
              exact (cmpV_zero _ _).2 rfl))
            clear hz hz0 hn
            go_wp2
            go_quiet ((go_at_call 42; exact quietAdd (HC.out _)))
            go_wp2
            go_ret
            exact ⟨by rw [decide_eq_false HE.out]; rfl, by first | exact ⟨_, rfl⟩ | (simp only [World.drewN_drewN]; exact ⟨_, rfl⟩)⟩
        · have t1 : (str x.1 != str y.1) = true := str_other (fun e => hn (str_inj e))
          have t3 : ((str x.1).toList == (str y.1).toList) = false := str_ne (fun e => hn (str_inj e))
          obtain ⟨s1, hs1⟩ : ∃ s1, str x.1 = s1 := ⟨_, rfl⟩
          obtain ⟨s2, hs2⟩ : ∃ s2, str y.1 = s2 := ⟨_, rfl⟩
          rw [hs1] at d1 t1 t3
          rw [hs2] at e1 t1 t3
          have HE := Lib.hid (show ¬ a = b from fun e => hn (by
            have h1 := HX.out
            rw [e, HY.out] at h1
            injection h1 with h1
            rw [h1]))
          clear hx hy rx ry hs1 hs2 hn d2 e2
          go_wp2
          go_quiet (fail)
          go_wp2
          go_ret
          exact ⟨by rw [decide_eq_false HE.out]; rfl, by first | exact ⟨_, rfl⟩ | (simp only [World.drewN_drewN]; exact ⟨_, rfl⟩)⟩
      · have q1 : decide ((k : Int) < (na : Int)) = false := by simp; omega
        have HE := Lib.hid (show a = b by
          have := HV.out
          rw [List.take_of_length_le (by have := HNA.out; omega), List.take_of_length_le (by have := HNB.out; omega)] at this
          exact this)
        go_wp2
        go_ret
        exact ⟨by rw [decide_eq_true HE.out]; rfl, _, rfl⟩
  · have t0 : ((na : Int) != (nb : Int)) = true := by simp; omega
    have HE := Lib.hid (show ¬ a = b from fun e => hl (by rw [← HNA.out, ← HNB.out, e]))
    go_enter Try.func43, Try.ntmps43
    go_wp2
    go_ret
    exact ⟨by rw [decide_eq_false HE.out]; rfl, 0, rfl⟩
theorem image_any (w : World) (A B : Option Addr) (a b : List (BS × BS)) (na nb ca cb : Nat) (hna : a.length = na) (hnb : b.length = nb) (ha : RdI w A a) (hb : RdI w B b) (hA : na ≤ 1000000000000) (hL : ∀ x ∈ a, x.2.length ≤ 1000000000000) :
    Calls Try.prog 20 #[.slice A na ca, .slice B nb cb] w (QuietEnd (.bool (decide (a = b))) w) := by
  have hc := eqImage_any w A B a b na nb ca cb hna hnb ha hb hA hL
  have HC := Lib.hid hc
  clear hna hnb ha hb hA hL hc
  go_enter Try.func20, Try.ntmps20
  go_wp2_with (go_at_call 43; (with_reducible refine HC.out.mono ?_); rintro e w1 ⟨rfl, n, rfl⟩)
  go_ret
  exact ⟨rfl, _, rfl⟩
end Go.Proofs.Ytgkpobajafjdeaa

/- The laws' steps in memory (ten cells each); few: of the first 200 those that change a disk. -/
namespace Go.Proofs.Ytgkpobajafjdeaa
open Go.RowKit Go.Maps

/-- A step as it stands in memory. -/
structure OpQ where
  kind : Int
  on : Int
  n : Int
  name : ByteArray
  dst : ByteArray
  Ab : Option Addr
  cb : Nat
  b : BS
  p0 : Int
  p1 : Int
  p2 : Int
  Ap : Option Addr
  np : Nat
  cp : Nat
def OpQ.cell (q : OpQ) : Nat → Value
  | 0 => .int .i64 q.kind
  | 1 => .int .i64 q.on
  | 2 => .int .i64 q.n
  | 3 => .string q.name
  | 4 => .string q.dst
  | 5 => .slice q.Ab q.b.length q.cb
  | 6 => .int .i64 q.p0
  | 7 => .int .i64 q.p1
  | 8 => .int .i64 q.p2
  | _ => .slice q.Ap q.np q.cp
def OpQ.toM (q : OpQ) : OpM := ⟨q.kind, q.name.data.toList, q.dst.data.toList, q.n, q.b⟩
/-- Its bytes can be read, and lie below H. -/
structure OpQ.At (w : World) (H : Nat) (q : OpQ) : Prop where
  rd : Rd w q.Ab q.b
  nil : q.Ab = none → q.b.length = 0 ∧ q.cb = 0
  cap : q.b.length ≤ q.cb
  lt : ∀ a, 0 < q.b.length → q.Ab = some a → a.block < H
  name : q.name.size ≤ maxLen
  dst : q.dst.size ≤ maxLen
theorem OpQ.At.below {w w' : World} {H : Nat} {q : OpQ} (h : q.At w H) (hb : Below H w w') : q.At w' H :=
  ⟨fun k c hk => by
    obtain ⟨g, o, e, hc⟩ := h.rd k c hk
    have hl := h.lt _ (by have := (List.getElem?_eq_some_iff.1 hk).1; omega) e
    exact ⟨g, o, e, (World.cell?_of_block (w := w) (a := ⟨g, o + k, none⟩) (hb.block g hl)).trans hc⟩, h.nil, h.cap, h.lt, h.name, h.dst⟩
def cO (l : List OpQ) (k : Nat) : Value := ((l[k / 10]?).getD ⟨0, 0, 0, ⟨#[]⟩, ⟨#[]⟩, none, 0, [], 0, 0, 0, none, 0, 0⟩).cell (k % 10)
theorem cO_at {l : List OpQ} {k j : Nat} {q : OpQ} (hj : j < 10) (h : l[k]? = some q) : cO l (k * 10 + j) = q.cell j := by
  unfold cO
  rw [show (k * 10 + j) / 10 = k by omega, show (k * 10 + j) % 10 = j by omega, h]
  rfl
/-- Steps that can be read. -/
def OpsIn (w : World) (A : Option Addr) (l : List OpQ) : Prop := ∀ (k : Nat) (q : OpQ), l[k]? = some q → ∃ g o, A = some ⟨g, o, none⟩ ∧ ∀ j, j < 10 → w.cell? ⟨g, o + k * 10 + j, none⟩ = some (q.cell j)
theorem OpsIn.below {w w' : World} {A : Option Addr} {l : List OpQ} (h : OpsIn w A l) (hb : Below w.heap.size w w') : OpsIn w' A l := fun k q hk => by
  obtain ⟨g, o, e, hc⟩ := h k q hk
  exact ⟨g, o, e, fun j hj => cellKeep hb (hc j hj)⟩
theorem One.opsIn {w : World} {base n cap : Nat} {A : Option Addr} {l : List OpQ} (h : One w base 58 10 (.slice A n cap) n (cO l)) (hn : l.length = n) : OpsIn w A l := fun k q hk => by
  have hl := (List.getElem?_eq_some_iff.1 hk).1
  obtain ⟨g, e, _⟩ := h.getN (k := k * 10) (by omega) (by omega)
  refine ⟨g, 0, e, fun j hj => ?_⟩
  obtain ⟨g', e', hc⟩ := h.getN (k := k * 10 + j) (by omega) (by omega)
  rw [e] at e'
  injection e' with e'
  injection e' with e'
  subst e'
  rw [cO_at hj hk] at hc
  rw [Nat.zero_add]
  exact hc
def keepQ (q : OpQ) : Bool := decide (1 ≤ q.kind) && decide (q.kind ≤ 6)
def cutQ (q : OpQ) : OpQ := if 4096 < q.b.length then { q with b := q.b.take 4096 } else q
def fewQ (l : List OpQ) : List OpQ := ((l.take 200).filter keepQ).map cutQ
theorem cutQ_at {w : World} {H : Nat} {q : OpQ} (h : q.At w H) : (cutQ q).At w H := by
  unfold cutQ
  split
  · rename_i hl
    refine ⟨fun k c hk => ?_, fun e => ?_, ?_, fun a _ e => h.lt a (by omega) e, h.name, h.dst⟩
    · have hk4 : k < 4096 := by
        have := (List.getElem?_eq_some_iff.1 hk).1
        simp at this
        omega
      have hk' : q.b[k]? = some c := by
        have h1 : (q.b.take 4096)[k]? = some c := hk
        rwa [List.getElem?_take_of_lt hk4] at h1
      exact h.rd k c hk'
    · have := h.nil e
      omega
    · have := h.cap
      show (q.b.take 4096).length ≤ q.cb
      rw [List.length_take]
      omega
  · exact h
theorem fewQ_at {w : World} {H : Nat} {l : List OpQ} (h : ∀ q ∈ l, q.At w H) : ∀ q ∈ fewQ l, q.At w H := fun q hq => by
  unfold fewQ at hq
  obtain ⟨q', hq', rfl⟩ := List.mem_map.1 hq
  exact cutQ_at (h q' (List.mem_of_mem_take (List.mem_filter.1 hq').1))
theorem fewQ_len (l : List OpQ) : (fewQ l).length ≤ 200 := by
  unfold fewQ
  rw [List.length_map]
  have := List.length_filter_le keepQ (l.take 200)
  rw [List.length_take] at this
  omega
theorem fewQ_bytes {l : List OpQ} {q : OpQ} (h : q ∈ fewQ l) : q.b.length ≤ 4096 ∧ 1 ≤ q.kind ∧ q.kind ≤ 6 := by
  unfold fewQ at h
  obtain ⟨q', hq', rfl⟩ := List.mem_map.1 h
  have hk := (List.mem_filter.1 hq').2
  unfold keepQ at hk
  simp at hk
  unfold cutQ
  split
  · exact ⟨by show (q'.b.take 4096).length ≤ 4096; rw [List.length_take]; omega, hk.1, hk.2⟩
  · exact ⟨by omega, hk.1, hk.2⟩
theorem fewQ_more {l : List OpQ} {k : Nat} {q : OpQ} (hk : k < 200) (h : l[k]? = some q) : fewQ (l.take (k + 1)) = if keepQ q then fewQ (l.take k) ++ [cutQ q] else fewQ (l.take k) := by
  unfold fewQ
  rw [List.take_take, List.take_take, Nat.min_eq_right (by omega), Nat.min_eq_right (by omega), List.take_add_one, h]
  simp only [Option.toList_some, List.filter_append, List.map_append]
  split
  · rename_i hq
    rw [List.filter_cons_of_pos (by exact hq)]
    rfl
  · rename_i hq
    rw [List.filter_cons_of_neg (by exact hq)]
    simp
theorem fewQ_end {l : List OpQ} {k : Nat} (h : l.length ≤ k ∨ 200 ≤ k) : fewQ (l.take k) = fewQ l := by
  unfold fewQ
  rcases h with h | h
  · rw [List.take_of_length_le (l := l) h]
  · rw [List.take_take, Nat.min_eq_left h]
theorem info_op : (Try.prog.info? 58).map (fun i => (i.zero, i.size, i.bytes)) = some (some (.agg #[.int .i64 0, .int .i64 0, .int .i64 0, .string ⟨#[]⟩, .string ⟨#[]⟩, .slice none 0 0, .int .i64 0, .int .i64 0, .int .i64 0, .slice none 0 0]), 10, 128) := by kernel_rfl
theorem op_fill (a b c : Int) (s t : ByteArray) (A : Option Addr) (n k : Nat) (p q r : Int) (Ap : Option Addr) (np kp : Nat) : Instr.fill (fun i => some (i * 10, 10)) ((Array.range (1 * 10)).map ((Value.agg #[.int .i64 0, .int .i64 0, .int .i64 0, .string ⟨#[]⟩, .string ⟨#[]⟩, .slice none 0 0, .int .i64 0, .int .i64 0, .int .i64 0, .slice none 0 0]).cells[· % (Value.agg #[.int .i64 0, .int .i64 0, .int .i64 0, .string ⟨#[]⟩, .string ⟨#[]⟩, .slice none 0 0, .int .i64 0, .int .i64 0, .int .i64 0, .slice none 0 0]).cells.size]!)) [(0, .agg #[.int .i64 a, .int .i64 b, .int .i64 c, .string s, .string t, .slice A n k, .int .i64 p, .int .i64 q, .int .i64 r, .slice Ap np kp])] = some #[.int .i64 a, .int .i64 b, .int .i64 c, .string s, .string t, .slice A n k, .int .i64 p, .int .i64 q, .int .i64 r, .slice Ap np kp] := by kernel_rfl
def OpQ.cells (q : OpQ) : Array Value := #[.int .i64 q.kind, .int .i64 q.on, .int .i64 q.n, .string q.name, .string q.dst, .slice q.Ab q.b.length q.cb, .int .i64 q.p0, .int .i64 q.p1, .int .i64 q.p2, .slice q.Ap q.np q.cp]
theorem cO_old (l : List OpQ) (q : OpQ) (k : Nat) (hk : k < l.length * 10) : cO l k = cO (l ++ [q]) k := by
  unfold cO
  rw [List.getElem?_append_left (by omega)]
theorem cO_new (l : List OpQ) (q : OpQ) (j : Nat) (hj : j < 10) : cO (l ++ [q]) (l.length * 10 + j) = q.cell j := cO_at hj (by simp)
/-- Append of one. -/
theorem append_op (w : World) (base ty : Nat) (v0 : Value) (l : List OpQ) (q : OpQ) (h0 : One w base 58 10 v0 l.length (cO l)) (hn : l.length ≤ 1000000000) (hbase : base ≤ w.heap.size) :
    ∃ A' cap' w', (Builtin.append_ #[48, 48] ty #[v0, .slice (some ⟨w.heap.size, 0, none⟩) 1 1]).run Try.prog (w.alloc (.cells q.cells 58)) = .ok (.slice A' (l.length + 1) cap') w' ∧ One w' base 58 10 (.slice A' (l.length + 1) cap') (l.length + 1) (cO (l ++ [q])) ∧ Below base w w' ∧ (w.alloc (.cells q.cells 58)).grownBy w' v0.ownBlock := by
  obtain ⟨k0, hkk, kz0, kz1, kz2⟩ := info_parts info_op
  have hb1 := (Below.refl w.heap.size w).alloc (Nat.le_refl _) (.cells q.cells 58)
  have h1 := (h0.same fun g hg => hb1.block g (h0.block hg).2).congr (fun k hk => cO_old l q k hk)
  obtain ⟨v', w', r1, r2, r3, _, r5⟩ := run_append_own_at (P := Try.prog) (w := w.alloc (.cells q.cells 58)) base 48 ty 58 k0 _ 10 128 Try.underlying48 hkk kz0 kz1 kz2 rfl (by decide) v0 _ _ h1.own ⟨w.heap.size, 0, none⟩ 1 1 q.cells.toList rfl
    (World.news_of_block (heap_alloc_new w _)) (by intro u hu; simp [OpQ.cells] at hu; rcases hu with rfl | rfl | rfl | rfl | rfl | rfl | rfl | rfl | rfl | rfl <;> rfl) (by unfold maxLen; omega) (by omega) (Nat.le_trans hbase hb1.size)
  have e : (List.range (l.length * 10)).map (cO (l ++ [q])) ++ q.cells.toList = (List.range ((l.length + 1) * 10)).map (cO (l ++ [q])) := by
    rw [show (l.length + 1) * 10 = l.length * 10 + 0 + 1 + 1 + 1 + 1 + 1 + 1 + 1 + 1 + 1 + 1 by omega]
    simp only [List.range_succ]
    simp only [List.map_append, List.map_cons, List.map_nil, List.append_assoc, List.cons_append, List.nil_append]
    have n0 := cO_new l q 0 (by omega)
    have n1 := cO_new l q 1 (by omega)
    have n2 := cO_new l q 2 (by omega)
    have n3 := cO_new l q 3 (by omega)
    have n4 := cO_new l q 4 (by omega)
    have n5 := cO_new l q 5 (by omega)
    have n6 := cO_new l q 6 (by omega)
    have n7 := cO_new l q 7 (by omega)
    have n8 := cO_new l q 8 (by omega)
    have n9 := cO_new l q 9 (by omega)
    rw [Nat.add_zero] at n0
    simp only [n0, n1, n2, n3, n4, n5, n6, n7, n8, n9]
    rfl
  rw [e] at r2
  have o2 := One.of r2
  obtain ⟨A', cap', rfl, _⟩ := o2.len2
  exact ⟨A', cap', w', r1, o2, (hb1.mono hbase).trans (below_grown r3 (fun g hg => (h1.block hg).1) (Nat.le_trans hbase hb1.size)), r3⟩
end Go.Proofs.Ytgkpobajafjdeaa

/- tallylaw4.few, within. -/
namespace Go.Proofs.Ytgkpobajafjdeaa
open Go.RowKit Go.Maps

def FewRel (w : World) (l : List OpQ) (n : Nat) (sv iv : Value) (wr : World) : Prop :=
  ∃ k : Nat, iv = .int .i64 k ∧ k ≤ n ∧ k ≤ 200 ∧ One wr w.heap.size 58 10 sv (fewQ (l.take k)).length (cO (fewQ (l.take k))) ∧ Below w.heap.size w wr
def FewEnd (l : List OpQ) (w : World) (e : Ending) (w' : World) : Prop :=
  ∃ A cap, e = .returned (.slice A (fewQ l).length cap) ∧ One w' w.heap.size 58 10 (.slice A (fewQ l).length cap) (fewQ l).length (cO (fewQ l)) ∧ Below w.heap.size w w'
theorem measure_less2 {k : Nat} (h : k < 200) : ((200 : Int) - intOf (Value.int .i64 ((k + 1 : Nat) : Int))).toNat < ((200 : Int) - intOf (Value.int .i64 (k : Int))).toNat := by
  simp [intOf]
  omega
set_option maxRecDepth 100000 in
set_option maxHeartbeats 4000000 in
theorem few_any (w : World) (A : Option Addr) (n cap : Nat) (l : List OpQ) (hn : l.length = n) (hA : OpsIn w A l) (hc : ∀ q ∈ l, q.b.length ≤ q.cb) :
    Calls Try.prog 24 #[.slice A n cap] w (FewEnd l w) := by
  have HN := Lib.hid hn
  have HA := Lib.hid hA
  have HC := Lib.hid hc
  clear hn hA hc
  go_enter Try.func24, Try.ntmps24
  go_wp2
  go_loopw [3, 4] (fun sv iv wr => FewRel w l n sv iv wr) (fun _ iv _ => (200 - intOf iv).toNat)
  case atStart => exact ⟨0, rfl, Nat.zero_le _, Nat.zero_le _, .inl ⟨rfl, rfl⟩, Below.refl _ _⟩
  case round =>
    obtain ⟨k, rfl, hkn, hk2, ho, hb⟩ := hrel
    have hfl := fewQ_len (l.take k)
    obtain ⟨A9, cap9, rfl, _⟩ := ho.len2
    by_cases hlt : k < n
    · have q1 : (k : Int) < (n : Int) := by omega
      by_cases hlt2 : k < 200
      · have q2 : (k : Int) < 200 := by omega
        obtain ⟨q, hq⟩ : ∃ q, l[k]? = some q := ⟨l[k]'(by rw [HN.out]; exact hlt), List.getElem?_eq_getElem _⟩
        have hcap := HC.out q (List.mem_of_getElem? hq)
        have hmore := fewQ_more hlt2 hq
        obtain ⟨g, o, rfl, hcell⟩ := HA.out k q hq
        have hcl := fun j hj => cellKeep hb (hcell j hj)
        have d0 := hcl 0 (by omega)
        have d1 := hcl 1 (by omega)
        have d2 := hcl 2 (by omega)
        have d3 := hcl 3 (by omega)
        have d4 := hcl 4 (by omega)
        have d5 := hcl 5 (by omega)
        have d6 := hcl 6 (by omega)
        have d7 := hcl 7 (by omega)
        have d8 := hcl 8 (by omega)
        have d9 := hcl 9 (by omega)
        rw [Nat.add_zero] at d0
        simp only [OpQ.cell] at d0 d1 d2 d3 d4 d5 d6 d7 d8 d9
        obtain ⟨fq, hfq⟩ : ∃ fq, fewQ (l.take k) = fq := ⟨_, rfl⟩
        rw [hfq] at ho hmore hfl
        obtain ⟨ln, hln⟩ : ∃ ln, fq.length = ln := ⟨_, rfl⟩
        rw [hfq, hln]
        rw [hln] at ho hfl
        have HLN := Lib.hid hln
        have HO := Lib.hid ho
        have HB := Lib.hid hb
        have HM := Lib.hid hmore
        have HW := Lib.hid (w64s (k := k) (by omega))
        have HK := Lib.hid (And.intro hlt hlt2)
        have HFL := Lib.hid hfl
        have HS := Lib.hid hb.size
        obtain ⟨kd, on, nn, name, dst, Ab, cb, b, p0, p1, p2, Ap, np, cp⟩ := q
        dsimp only at d0 d1 d2 d3 d4 d5 d6 d7 d8 d9 hcap
        obtain ⟨L, hL⟩ : ∃ L, b.length = L := ⟨_, rfl⟩
        rw [hL] at d5 hcap
        have HL := Lib.hid hL
        clear hq hmore hcell hcl ho hb hln hfq hlt hlt2 hkn hk2 hL hfl
        by_cases h1 : kd < 1
        · have t1 : decide (kd < 1) = true := decide_eq_true h1
          have hkp : keepQ ⟨kd, on, nn, name, dst, Ab, cb, b, p0, p1, p2, Ap, np, cp⟩ = false := by unfold keepQ; simp; omega
          rw [hkp] at HM
          clear h1 hkp hcap
          go_wp2
          exact ⟨⟨k + 1, by first | rfl | exact congrArg _ HW.out, by have := HK.out; omega, by have := HK.out; omega, by rw [HM.out]; exact (show One _ _ _ _ _ fq.length (cO fq) by rw [HLN.out]; exact HO.out.below ((Below.refl _ _).alloc (Nat.le_refl _) _)), HB.out.alloc HS.out _⟩, by first | exact measure_less2 HK.out.2 | (rw [HW.out]; exact measure_less2 HK.out.2)⟩
        · have t1 : decide (kd < 1) = false := decide_eq_false h1
          by_cases h2 : 6 < kd
          · have t2 : decide (6 < kd) = true := decide_eq_true h2
            have hkp : keepQ ⟨kd, on, nn, name, dst, Ab, cb, b, p0, p1, p2, Ap, np, cp⟩ = false := by unfold keepQ; simp; omega
            rw [hkp] at HM
            clear h1 h2 hkp hcap
            go_wp2
            exact ⟨⟨k + 1, by first | rfl | exact congrArg _ HW.out, by have := HK.out; omega, by have := HK.out; omega, by rw [HM.out]; exact (show One _ _ _ _ _ fq.length (cO fq) by rw [HLN.out]; exact HO.out.below ((Below.refl _ _).alloc (Nat.le_refl _) _)), HB.out.alloc HS.out _⟩, by first | exact measure_less2 HK.out.2 | (rw [HW.out]; exact measure_less2 HK.out.2)⟩
          · have t2 : decide (6 < kd) = false := decide_eq_false h2
            have hkp : keepQ ⟨kd, on, nn, name, dst, Ab, cb, b, p0, p1, p2, Ap, np, cp⟩ = true := by unfold keepQ; simp; omega
            rw [hkp, if_pos rfl] at HM
            clear h1 h2 hkp
            obtain ⟨k0, hkk, kz0, kz1, kz2⟩ := info_parts info_op
            by_cases h3 : 4096 < L
            · have t3 : (4096 : Int) < (L : Int) := by omega
              have hsl : ∀ w', (Instr.slice 26 (.slice Ab L cb) none (some (.int .i64 4096)) none).run Try.prog w' = .ok (.slice Ab 4096 cb) w' := fun w' => slice_to 26 (by kernel_rfl) 1 (fun w' => by kernel_rfl) Ab L cb 4096 (by omega) w'
              have hcq : cutQ ⟨kd, on, nn, name, dst, Ab, cb, b, p0, p1, p2, Ap, np, cp⟩ = ⟨kd, on, nn, name, dst, Ab, cb, b.take 4096, p0, p1, p2, Ap, np, cp⟩ := if_pos (by rw [← HL.out] at h3; exact h3)
              rw [hcq] at HM
              have hbl : (b.take 4096).length = 4096 := by rw [List.length_take]; have := HL.out; omega
              have hwb : Below wr.heap.size wr (wr.alloc (.cells #[.int .i64 kd, .int .i64 on, .int .i64 nn, .string name, .string dst, .slice Ab 4096 cb, .int .i64 p0, .int .i64 p1, .int .i64 p2, .slice Ap np cp] 58)) := (Below.refl _ _).alloc (Nat.le_refl _) _
              have hsz : (wr.alloc (.cells #[.int .i64 kd, .int .i64 on, .int .i64 nn, .string name, .string dst, .slice Ab 4096 cb, .int .i64 p0, .int .i64 p1, .int .i64 p2, .slice Ap np cp] 58)).heap.size = wr.heap.size + 1 := by simp
              obtain ⟨A', cap', w4, r1, r2, r3, r4⟩ := append_op (wr.alloc (.cells #[.int .i64 kd, .int .i64 on, .int .i64 nn, .string name, .string dst, .slice Ab 4096 cb, .int .i64 p0, .int .i64 p1, .int .i64 p2, .slice Ap np cp] 58)) w.heap.size 48 (.slice A9 ln cap9) fq ⟨kd, on, nn, name, dst, Ab, cb, b.take 4096, p0, p1, p2, Ap, np, cp⟩ (by rw [HLN.out]; exact HO.out.below hwb) (by rw [HLN.out]; have := HFL.out; omega) (by rw [hsz]; have := HS.out; omega)
              unfold OpQ.cells at r1
              dsimp only at r1
              rw [hbl, HLN.out] at r1
              have HR1 := Lib.hid r1
              have HR2 := Lib.hid r2
              have HR3 := Lib.hid ((HB.out.trans (hwb.mono HS.out)).trans r3)
              clear r1 r2 r3 r4 hwb hsz hbl hcq h3 hcap
              go_wp2_with (first
                | (refine wpList_buildSlice rfl 48 58 1 #[(0, .tmp 37)] rfl #[.int .i64 kd, .int .i64 on, .int .i64 nn, .string name, .string dst, .slice Ab 4096 cb, .int .i64 p0, .int .i64 p1, .int .i64 p2, .slice Ap np cp] k0 (.agg #[.int .i64 0, .int .i64 0, .int .i64 0, .string ⟨#[]⟩, .string ⟨#[]⟩, .slice none 0 0, .int .i64 0, .int .i64 0, .int .i64 0, .slice none 0 0]) Try.underlying48 hkk kz0 (by rw [kz1]; decide) (by rw [kz1]; decide) (by rw [kz1]; refine Eq.trans (congrArg (Instr.fill _ _) ?_) (op_fill kd on nn name dst Ab 4096 cb p0 p1 p2 Ap np cp); simp only [List.map_toArray, List.map_cons, List.map_nil, Act.eval]; rfl) ?_)
                | (refine wpList_append_by (vs := .slice A9 ln cap9) (vx := .slice (some ⟨(wr.alloc (.cells #[.int .i64 kd, .int .i64 on, .int .i64 nn, .string name, .string dst, .slice Ab 4096 cb, .int .i64 p0, .int .i64 p1, .int .i64 p2, .slice Ap np cp] 58)).heap.size, 0, none⟩) 1 1) rfl (.tmp 36) (.tmp 38) 48 rfl rfl rfl HR1.out ?_))
              exact ⟨⟨k + 1, by first | rfl | exact congrArg _ HW.out, by have := HK.out; omega, by have := HK.out; omega, by rw [HM.out, List.length_append, HLN.out]; have := HR2.out; rw [HLN.out] at this; exact this, HR3.out⟩, by first | exact measure_less2 HK.out.2 | (rw [HW.out]; exact measure_less2 HK.out.2)⟩
            · have t3 : decide ((4096 : Int) < (L : Int)) = false := decide_eq_false (by omega)
              have hcq : cutQ ⟨kd, on, nn, name, dst, Ab, cb, b, p0, p1, p2, Ap, np, cp⟩ = ⟨kd, on, nn, name, dst, Ab, cb, b, p0, p1, p2, Ap, np, cp⟩ := if_neg (by show ¬ 4096 < b.length; rw [HL.out]; exact h3)
              rw [hcq] at HM
              have hwb : Below wr.heap.size wr (wr.alloc (.cells #[.int .i64 kd, .int .i64 on, .int .i64 nn, .string name, .string dst, .slice Ab L cb, .int .i64 p0, .int .i64 p1, .int .i64 p2, .slice Ap np cp] 58)) := (Below.refl _ _).alloc (Nat.le_refl _) _
              have hsz : (wr.alloc (.cells #[.int .i64 kd, .int .i64 on, .int .i64 nn, .string name, .string dst, .slice Ab L cb, .int .i64 p0, .int .i64 p1, .int .i64 p2, .slice Ap np cp] 58)).heap.size = wr.heap.size + 1 := by simp
              obtain ⟨A', cap', w4, r1, r2, r3, r4⟩ := append_op (wr.alloc (.cells #[.int .i64 kd, .int .i64 on, .int .i64 nn, .string name, .string dst, .slice Ab L cb, .int .i64 p0, .int .i64 p1, .int .i64 p2, .slice Ap np cp] 58)) w.heap.size 48 (.slice A9 ln cap9) fq ⟨kd, on, nn, name, dst, Ab, cb, b, p0, p1, p2, Ap, np, cp⟩ (by rw [HLN.out]; exact HO.out.below hwb) (by rw [HLN.out]; have := HFL.out; omega) (by rw [hsz]; have := HS.out; omega)
              unfold OpQ.cells at r1
              dsimp only at r1
              rw [HL.out, HLN.out] at r1
              have HR1 := Lib.hid r1
              have HR2 := Lib.hid r2
              have HR3 := Lib.hid ((HB.out.trans (hwb.mono HS.out)).trans r3)
              clear r1 r2 r3 r4 hwb hsz hcq h3 hcap
              go_wp2_with (first
                | (refine wpList_buildSlice rfl 48 58 1 #[(0, .tmp 37)] rfl #[.int .i64 kd, .int .i64 on, .int .i64 nn, .string name, .string dst, .slice Ab L cb, .int .i64 p0, .int .i64 p1, .int .i64 p2, .slice Ap np cp] k0 (.agg #[.int .i64 0, .int .i64 0, .int .i64 0, .string ⟨#[]⟩, .string ⟨#[]⟩, .slice none 0 0, .int .i64 0, .int .i64 0, .int .i64 0, .slice none 0 0]) Try.underlying48 hkk kz0 (by rw [kz1]; decide) (by rw [kz1]; decide) (by rw [kz1]; refine Eq.trans (congrArg (Instr.fill _ _) ?_) (op_fill kd on nn name dst Ab L cb p0 p1 p2 Ap np cp); simp only [List.map_toArray, List.map_cons, List.map_nil, Act.eval]; rfl) ?_)
                | (refine wpList_append_by (vs := .slice A9 ln cap9) (vx := .slice (some ⟨(wr.alloc (.cells #[.int .i64 kd, .int .i64 on, .int .i64 nn, .string name, .string dst, .slice Ab L cb, .int .i64 p0, .int .i64 p1, .int .i64 p2, .slice Ap np cp] 58)).heap.size, 0, none⟩) 1 1) rfl (.tmp 36) (.tmp 38) 48 rfl rfl rfl HR1.out ?_))
              exact ⟨⟨k + 1, by first | rfl | exact congrArg _ HW.out, by have := HK.out; omega, by have := HK.out; omega, by rw [HM.out, List.length_append, HLN.out]; have := HR2.out; rw [HLN.out] at this; exact this, HR3.out⟩, by first | exact measure_less2 HK.out.2 | (rw [HW.out]; exact measure_less2 HK.out.2)⟩
      · have q2 : decide ((k : Int) < 200) = false := decide_eq_false (by omega)
        have he := fewQ_end (l := l) (k := k) (.inr (by omega))
        rw [he] at ho
        have HO := Lib.hid ho
        rw [he]
        clear hlt2 ho he hkn hk2 hfl
        go_wp2
        go_ret
        exact ⟨_, _, rfl, HO.out, hb⟩
    · have q1 : decide (k < n) = false := decide_eq_false hlt
      have he := fewQ_end (l := l) (k := k) (.inl (by have := HN.out; omega))
      rw [he] at ho
      have HO := Lib.hid ho
      rw [he]
      clear hlt ho he hkn hk2 hfl
      go_wp2
      go_ret
      exact ⟨_, _, rfl, HO.out, hb⟩
theorem within_any (w : World) (n m : Int) (hm : 0 < m) (hm2 : m ≤ 1000000) : Calls Try.prog 22 #[.int .i64 n, .int .i64 m] w fun e w' => e = .returned (.int .i64 (n % m)) ∧ w = w' := by
  have hz : ¬ m = 0 := by omega
  have h1 := Int.tmod_lt_of_pos n hm
  have h2 := Int.lt_tmod_of_pos n hm
  have hw : wrap64 (n.tmod m + m) = n.tmod m + m := by unfold wrap64; omega
  have hr : (n.tmod m + m).tmod m = n % m := by
    rw [Int.tmod_eq_emod_of_nonneg (by omega), Int.add_emod_right]
    rcases Int.lt_or_le n 0 with h | h
    · have h4 := Int.tmod_eq_emod (a := n) (b := m)
      rw [h4]
      split
      · simp
      · rw [Int.sub_emod, Int.emod_emod]
        have e : ((m.natAbs : Nat) : Int) = m := by omega
        rw [e, Int.emod_self, Int.sub_zero, Int.emod_emod]
    · rw [Int.tmod_eq_emod_of_nonneg h, Int.emod_emod]
  have HR := Lib.hid hr
  obtain ⟨x, hx⟩ : ∃ x, n.tmod m = x := ⟨_, rfl⟩
  rw [hx] at hw HR
  clear h1 h2 hr hm hm2
  go_enter Try.func22, Try.ntmps22
  go_wp2
  go_ret
  exact ⟨by rw [← HR.out]; rfl, rfl⟩
end Go.Proofs.Ytgkpobajafjdeaa

/- tallylaw4.play: a call that changes a disk. -/
namespace Go.Proofs.Ytgkpobajafjdeaa
open Go.RowKit Go.Maps

theorem DkEnd.behind {base i D : Nat} {ρ : Nat → Nat} {d : DM} {w w1 w' : World} (h : DkEnd base ρ i D d w1 w') (hb : Below w.heap.size w w1) (hl : base ≤ w.heap.size) : DkEnd base ρ i D d w w' := by
  obtain ⟨ρ', h1, h2, h3, h4⟩ := h
  exact ⟨ρ', h1, (Keeps.below _ ρ hb).trans h2, h3, (hb.mono hl).trans h4⟩
theorem OpQ.At.far {w : World} {base i : Nat} {ρ : Nat → Nat} {q : OpQ} (h : q.At w base) (hl : base ≤ w.heap.size) (hρ : ∀ g, g < base → ∀ x, ρ g ≠ ro i x) : SrcFar w ρ i q.Ab q.b.length q.b := fun hn => by
  obtain ⟨g, o, e, _⟩ := h.rd 0 (q.b[0]'hn) (List.getElem?_eq_getElem hn)
  have hg := h.lt _ hn e
  refine ⟨g, o, e, by simpa using Nat.lt_of_lt_of_le hg hl, hρ g hg, fun k hk => ?_⟩
  obtain ⟨g', o', e', hc⟩ := h.rd k (q.b[k]'hk) (List.getElem?_eq_getElem hk)
  rw [e] at e'
  injection e' with e'
  injection e' with e1 e2
  subst e1 e2
  rw [hc, cB_at (List.getElem?_eq_getElem hk)]
theorem op_none {d : DM} {o : OpM} (h1 : ¬ o.kind = 1) (h2 : ¬ o.kind = 2) (h3 : ¬ o.kind = 3) (h4 : ¬ o.kind = 4) (h5 : ¬ o.kind = 5) (h6 : ¬ o.kind = 6) : d.op o = (d, 0) := by
  unfold DM.op
  rw [if_neg h1, if_neg h2, if_neg h3, if_neg h4, if_neg h5, if_neg h6]
def OpQ.agg (q : OpQ) : Value := .agg #[.int .i64 q.kind, .int .i64 q.on, .int .i64 q.n, .string q.name, .string q.dst, .slice q.Ab q.b.length q.cb, .int .i64 q.p0, .int .i64 q.p1, .int .i64 q.p2, .slice q.Ap q.np q.cp]
set_option maxRecDepth 100000 in
set_option maxHeartbeats 4000000 in
theorem lawplay_far (w : World) (base i D : Nat) (ρ : Nat → Nat) (d : DM) (h : DiskAt w base ρ i D d) (hi : i < 16) (hF : Free w ρ) (hok : d.Ok) {k t : Nat} (hsz : d.Sz k t) (hk : k ≤ 900000) (ht : t ≤ 1000000000) (q : OpQ) (hqn : q.Ab = none → q.b.length = 0 ∧ q.cb = 0) (hqm : q.name.size ≤ maxLen) (hqd : q.dst.size ≤ maxLen) (hfar0 : SrcFar w ρ i q.Ab q.b.length q.b) (hbl : q.b.length ≤ 1000000000) :
    Calls Try.prog 26 #[.pointer (some ⟨D, 0, none⟩), q.agg] w (OpEnd base ρ i D (d.op q.toM) w) := by
  obtain ⟨fb, bN, bS, chv, h⟩ := h
  have hbase := h.base_le
  have hwb : Below w.heap.size w (w.alloc (.cells q.cells 58)) := (Below.refl _ _).alloc (Nat.le_refl _) _
  have h1 := h.below hwb
  have hF1 : Free (w.alloc (.cells q.cells 58)) ρ := hF.le hwb.size
  have hfit := hok.fit hsz (by omega)
  have hfar := hfar0.keep (Keeps.below (fun r => ∃ k, r = ro i k) ρ hwb)
  have cApp := append_any _ base i D bN bS ρ d fb chv h1 hi hF1 hfit q.name hqm hok.room q.b.length q.cb q.Ab q.b rfl hfar hqn hbl (fun f hg => ⟨by have := hsz.units f; omega, by have := seen_used hg; have := hok.used; have := hok.room; omega⟩) hok.sureG.idx hok.chIdx
  have cCut := cut_any _ base i D bN bS ρ d fb chv h1 hi hF1 hfit q.name hqm q.n (by have := hok.bytes_le q.name.data.toList; omega) (fun f _ => by have := hsz.units f; omega)
  have cSync := sync_any _ base i D bN bS ρ d fb chv h1 hi hF1 hfit q.name hqm (by have := hok.bytes_le q.name.data.toList; omega)
  have cNames := syncNames_any _ base i D bN bS ρ d fb chv h1 hi hF1 hfit hok.playOk
  have cRen := rename_any _ base i D bN bS ρ d fb chv h1 hi hF1 hfit q.name q.dst hqm hqd
  have cRem := remove_any _ base i D bN bS ρ d fb chv h1 hi hF1 hfit q.name hqm
  have hend := h1.end0 hF1
  obtain ⟨kd, on, nn, name, dst, Ab, cb, b, p0, p1, p2, Ap, np, cp⟩ := q
  dsimp only at cApp cCut cSync cRen cRem
  unfold OpQ.agg
  unfold OpQ.cells at cApp cCut cSync cNames cRen cRem hwb
  dsimp only at cApp cCut cSync cNames cRen cRem hwb ⊢
  have HWB := Lib.hid hwb
  have HL := Lib.hid hbase
  clear hwb h1 hF1 hfit hfar hfar0 h hF hok hsz hqn hqm hqd hbl hk ht hbase
  by_cases k1 : kd = 1
  · subst k1
    have er : d.op (OpQ.toM ⟨1, on, nn, name, dst, Ab, cb, b, p0, p1, p2, Ap, np, cp⟩) = d.append name.data.toList b := rfl
    rw [er]
    obtain ⟨r, hr⟩ : ∃ r, d.append name.data.toList b = r := ⟨_, rfl⟩
    rw [hr] at cApp ⊢
    obtain ⟨r1, r2⟩ := r
    have HC := Lib.hid cApp
    clear er hr cApp cCut cSync cNames cRen cRem
    clear hend
    go_enter Try.func26, Try.ntmps26
    go_wp2_with (first | (go_at_call 47; (with_reducible refine HC.out.mono ?_); rintro e w2 ⟨rfl, hd⟩; have HD := Lib.hid hd; clear hd) | (go_at_call 13; (with_reducible refine (num_any _ _).mono ?_); rintro e w3 ⟨rfl, rfl⟩))
    go_ret
    exact ⟨rfl, HD.out.behind HWB.out HL.out⟩
  by_cases k2 : kd = 2
  · subst k2
    have er : d.op (OpQ.toM ⟨2, on, nn, name, dst, Ab, cb, b, p0, p1, p2, Ap, np, cp⟩) = d.cut name.data.toList nn := rfl
    rw [er]
    obtain ⟨r, hr⟩ : ∃ r, d.cut name.data.toList nn = r := ⟨_, rfl⟩
    rw [hr] at cCut ⊢
    obtain ⟨r1, r2⟩ := r
    have HC := Lib.hid cCut
    clear er hr cApp cCut cSync cNames cRen cRem k1
    clear hend
    go_enter Try.func26, Try.ntmps26
    go_wp2_with (first | (go_at_call 48; (with_reducible refine HC.out.mono ?_); rintro e w2 ⟨rfl, hd⟩; have HD := Lib.hid hd; clear hd) | (go_at_call 13; (with_reducible refine (num_any _ _).mono ?_); rintro e w3 ⟨rfl, rfl⟩))
    go_ret
    exact ⟨rfl, HD.out.behind HWB.out HL.out⟩
  by_cases k3 : kd = 3
  · subst k3
    have er : d.op (OpQ.toM ⟨3, on, nn, name, dst, Ab, cb, b, p0, p1, p2, Ap, np, cp⟩) = d.sync name.data.toList := rfl
    rw [er]
    obtain ⟨r, hr⟩ : ∃ r, d.sync name.data.toList = r := ⟨_, rfl⟩
    rw [hr] at cSync ⊢
    obtain ⟨r1, r2⟩ := r
    have HC := Lib.hid cSync
    clear er hr cApp cCut cSync cNames cRen cRem k1 k2
    clear hend
    go_enter Try.func26, Try.ntmps26
    go_wp2_with (first | (go_at_call 49; (with_reducible refine HC.out.mono ?_); rintro e w2 ⟨rfl, hd⟩; have HD := Lib.hid hd; clear hd) | (go_at_call 13; (with_reducible refine (num_any _ _).mono ?_); rintro e w3 ⟨rfl, rfl⟩))
    go_ret
    exact ⟨rfl, HD.out.behind HWB.out HL.out⟩
  by_cases k4 : kd = 4
  · subst k4
    have er : d.op (OpQ.toM ⟨4, on, nn, name, dst, Ab, cb, b, p0, p1, p2, Ap, np, cp⟩) = d.syncNames := rfl
    rw [er]
    obtain ⟨r, hr⟩ : ∃ r, d.syncNames = r := ⟨_, rfl⟩
    rw [hr] at cNames ⊢
    obtain ⟨r1, r2⟩ := r
    have HC := Lib.hid cNames
    clear er hr cApp cCut cSync cNames cRen cRem k1 k2 k3
    clear hend
    go_enter Try.func26, Try.ntmps26
    go_wp2_with (first | (go_at_call 50; (with_reducible refine HC.out.mono ?_); rintro e w2 ⟨rfl, hd⟩; have HD := Lib.hid hd; clear hd) | (go_at_call 13; (with_reducible refine (num_any _ _).mono ?_); rintro e w3 ⟨rfl, rfl⟩))
    go_ret
    exact ⟨rfl, HD.out.behind HWB.out HL.out⟩
  by_cases k5 : kd = 5
  · subst k5
    have er : d.op (OpQ.toM ⟨5, on, nn, name, dst, Ab, cb, b, p0, p1, p2, Ap, np, cp⟩) = d.rename name.data.toList dst.data.toList := rfl
    rw [er]
    obtain ⟨r, hr⟩ : ∃ r, d.rename name.data.toList dst.data.toList = r := ⟨_, rfl⟩
    rw [hr] at cRen ⊢
    obtain ⟨r1, r2⟩ := r
    have HC := Lib.hid cRen
    clear er hr cApp cCut cSync cNames cRen cRem k1 k2 k3 k4
    clear hend
    go_enter Try.func26, Try.ntmps26
    go_wp2_with (first | (go_at_call 51; (with_reducible refine HC.out.mono ?_); rintro e w2 ⟨rfl, hd⟩; have HD := Lib.hid hd; clear hd) | (go_at_call 13; (with_reducible refine (num_any _ _).mono ?_); rintro e w3 ⟨rfl, rfl⟩))
    go_ret
    exact ⟨rfl, HD.out.behind HWB.out HL.out⟩
  by_cases k6 : kd = 6
  · subst k6
    have er : d.op (OpQ.toM ⟨6, on, nn, name, dst, Ab, cb, b, p0, p1, p2, Ap, np, cp⟩) = d.remove name.data.toList := rfl
    rw [er]
    obtain ⟨r, hr⟩ : ∃ r, d.remove name.data.toList = r := ⟨_, rfl⟩
    rw [hr] at cRem ⊢
    obtain ⟨r1, r2⟩ := r
    have HC := Lib.hid cRem
    clear er hr cApp cCut cSync cNames cRen cRem k1 k2 k3 k4 k5
    clear hend
    go_enter Try.func26, Try.ntmps26
    go_wp2_with (first | (go_at_call 52; (with_reducible refine HC.out.mono ?_); rintro e w2 ⟨rfl, hd⟩; have HD := Lib.hid hd; clear hd) | (go_at_call 13; (with_reducible refine (num_any _ _).mono ?_); rintro e w3 ⟨rfl, rfl⟩))
    go_ret
    exact ⟨rfl, HD.out.behind HWB.out HL.out⟩
  · have er : d.op (OpQ.toM ⟨kd, on, nn, name, dst, Ab, cb, b, p0, p1, p2, Ap, np, cp⟩) = (d, 0) := op_none k1 k2 k3 k4 k5 k6
    rw [er]
    have HE := Lib.hid hend
    clear er cApp cCut cSync cNames cRen cRem hend
    go_enter Try.func26, Try.ntmps26
    go_wp2
    go_ret
    exact ⟨rfl, HE.out.behind HWB.out HL.out⟩
theorem lawplay_any (w : World) (base i D : Nat) (ρ : Nat → Nat) (d : DM) (h : DiskAt w base ρ i D d) (hi : i < 16) (hF : Free w ρ) (hok : d.Ok) {k t : Nat} (hsz : d.Sz k t) (hk : k ≤ 900000) (ht : t ≤ 1000000000) (q : OpQ) (hq : q.At w base) (hρ : ∀ g, g < base → ∀ x, ρ g ≠ ro i x) (hbl : q.b.length ≤ 1000000000) :
    Calls Try.prog 26 #[.pointer (some ⟨D, 0, none⟩), q.agg] w (OpEnd base ρ i D (d.op q.toM) w) := by
  have hbase : base ≤ w.heap.size := by obtain ⟨fb, bN, bS, chv, h⟩ := h; exact h.base_le
  exact lawplay_far w base i D ρ d h hi hF hok hsz hk ht q hq.nil hq.name hq.dst (hq.far hbase hρ) hbl
end Go.Proofs.Ytgkpobajafjdeaa

/- tallylaw4.seen, find. -/
namespace Go.Proofs.Ytgkpobajafjdeaa
open Go.RowKit Go.Maps

def DM.seenL (d : DM) : List (BS × BS) := (if d.off then [] else d.names).map fun p => (p.1, d.bytes p.1)
def SeenRel (w1 : World) (l : List (BS × BS)) (sv iv : Value) (wr : World) : Prop :=
  ∃ k : Nat, iv = .int .i64 k ∧ k ≤ l.length ∧ ImgAt wr w1.heap.size sv (l.take k) ∧ Below w1.heap.size w1 wr
def SeenEnd (l : List (BS × BS)) (w : World) (e : Ending) (w' : World) : Prop :=
  ∃ A cap, e = .returned (.slice A l.length cap) ∧ ImgAt w' w.heap.size (.slice A l.length cap) l ∧ Below w.heap.size w w'
theorem take_snoc {α : Type} {l : List α} {k : Nat} {x : α} (h : l[k]? = some x) : l.take (k + 1) = l.take k ++ [x] := by
  rw [List.take_add_one, h]; rfl
set_option maxRecDepth 100000 in
set_option maxHeartbeats 4000000 in
theorem seen_any (w : World) (base i D bN bS : Nat) (ρ : Nat → Nat) (d : DM) (fb : Nat → Nat) (chv : Value) (h : DiskD w base ρ i D d fb bN bS chv) (hok : d.Ok) :
    Calls Try.prog 25 #[.pointer (some ⟨D, 0, none⟩)] w (SeenEnd d.seenL w) := by
  have hlist := list_any w base i D bN bS ρ d fb chv h hok.nameG.ok (by have := hok.nameG.len; omega)
  unfold ListEnd at hlist
  have hll : (if d.off then [] else d.names).length ≤ 64 := by
    split
    · exact Nat.zero_le _
    · exact hok.nameG.len
  have hfair : ∀ p ∈ (if d.off then [] else d.names), fairB p.1 = true := fun p hp => by
    split at hp
    · cases hp
    · exact hok.nameG.fair p hp
  have hseen : d.seenL = (if d.off then [] else d.names).map fun p => (p.1, d.bytes p.1) := rfl
  obtain ⟨nl, hnl⟩ : ∃ nl : NM, (if d.off then [] else d.names) = nl := ⟨_, rfl⟩
  rw [hnl] at hlist hll hfair hseen
  have hsl : d.seenL.length = nl.length := by rw [hseen, List.length_map]
  obtain ⟨n, hn⟩ : ∃ n, nl.length = n := ⟨_, rfl⟩
  have HN := Lib.hid hn
  have HSL := Lib.hid hsl
  have HSE := Lib.hid hseen
  have HF := Lib.hid hfair
  rw [hn] at hlist hll
  have HLI := Lib.hid hlist
  have HLL := Lib.hid hll
  have H := Lib.hid h
  have HOK := Lib.hid hok
  clear hlist hll hfair hseen hnl hsl hn h hok
  go_enter Try.func25, Try.ntmps25
  go_wp2_with (go_at_call 16; (with_reducible refine HLI.out.mono ?_); rintro e w1 ⟨A1, cap1, rfl, ho1, hb1⟩; have HO1 := Lib.hid ho1; have HB1 := Lib.hid hb1; clear ho1 hb1)
  go_loopw [3, 6] (fun sv iv wr => SeenRel w1 d.seenL sv iv wr) (fun _ iv _ => (n - intOf iv).toNat)
  case atStart => exact ⟨0, rfl, Nat.zero_le _, ImgAt.nil _ _, Below.refl _ _⟩
  case round =>
    obtain ⟨k, rfl, hk, himg, hb⟩ := hrel
    rw [HSL.out, HN.out] at hk
    obtain ⟨A9, cap9, rfl, _⟩ := himg.slice
    have htl : (d.seenL.take k).length = k := by rw [List.length_take, HSL.out, HN.out]; omega
    rw [htl] at himg ⊢
    by_cases hlt : k < n
    · have q1 : (k : Int) < (n : Int) := by omega
      have hnn := HN.out
      obtain ⟨p, hp⟩ : ∃ p, nl[k]? = some p := ⟨nl[k]'(by omega), List.getElem?_eq_getElem _⟩
      obtain ⟨m, f⟩ := p
      have hmsz := str_size m (fair_len (HF.out _ (List.mem_of_getElem? hp))).2
      have hpx : d.seenL[k]? = some (m, d.bytes m) := by rw [HSE.out, List.getElem?_map, hp]; rfl
      have hmore := take_snoc hpx
      obtain ⟨g, rfl, d1⟩ := HO1.out.getN (k := k) (by omega) (by omega)
      have e1 : cS (nl.map Prod.fst) k = .string (str m) := by unfold cS; rw [List.getElem?_map, hp]; rfl
      rw [e1] at d1
      have c1 := cellKeep hb d1
      have hbw : Below w.heap.size w wr := HB1.out.trans (hb.mono HB1.out.size)
      have hrd := read_any wr base i D bN bS ρ d fb chv (H.out.below hbw) HOK.out.nameG.idx (str m) hmsz (by rw [list_str]; have := HOK.out.bytes_le m; omega)
      rw [list_str] at hrd
      unfold ReadEnd at hrd
      have HRD := Lib.hid hrd
      have HIMG := Lib.hid himg
      have HB := Lib.hid hb
      have HD1 := Lib.hid d1
      have HMO := Lib.hid hmore
      have HTL := Lib.hid htl
      have HW := Lib.hid (w64s (k := k) (by have := HLL.out; omega))
      have HLT := Lib.hid hlt
      obtain ⟨k0, hkk, kz0, kz1, kz2⟩ := info_parts info_fb
      obtain ⟨bl, hbl⟩ : ∃ bl, (d.bytes m).length = bl := ⟨_, rfl⟩
      rw [hbl] at HRD
      have HBL := Lib.hid hbl
      clear himg hb d1 hmore htl hrd hpx hmsz hp e1 hbw hnn hk hlt hbl
      go_wp2_with (first
        | (go_at_call 17; (with_reducible refine HRD.out.mono ?_); rintro e w2 ⟨A2, cap2, rfl, ht2⟩; have c2 := cellKeep ht2.2 c1; obtain ⟨A', cap', w4, r1, r2, r3, _⟩ := ImgAt.more w2 w1.heap.size 22 (.slice A9 k cap9) _ (HIMG.out.below ht2.2) m (d.bytes m) A2 bl cap2 (ht2.1.weak HB.out.size) (by rw [HTL.out]; have := HLL.out; have := HLT.out; omega) (Nat.le_trans HB.out.size ht2.2.size); rw [HTL.out] at r1 r2; have HR1 := Lib.hid r1; have HR2 := Lib.hid r2; have HR3 := Lib.hid ((HB.out.trans (ht2.2.mono HB.out.size)).trans r3); clear ht2 r1 r2 r3)
        | (refine wpList_buildSlice rfl 22 28 1 #[(0, .tmp 35)] rfl #[.string (str m), .slice A2 bl cap2] k0 (.agg #[.string ⟨#[]⟩, .slice none 0 0]) Try.underlying22 hkk kz0 (by rw [kz1]; decide) (by rw [kz1]; decide) (by rw [kz1]; refine Eq.trans (congrArg (Instr.fill _ _) ?_) (fb_fill (str m) A2 bl cap2); simp only [List.map_toArray, List.map_cons, List.map_nil, Act.eval]; rfl) ?_)
        | (refine wpList_append_by (vs := .slice A9 k cap9) (vx := .slice (some ⟨w2.heap.size, 0, none⟩) 1 1) rfl (.tmp 29) (.tmp 36) 22 rfl rfl rfl HR1.out ?_))
      exact ⟨⟨k + 1, by first | rfl | exact congrArg _ HW.out, by rw [HSL.out, HN.out]; exact HLT.out, by rw [HMO.out]; exact HR2.out, HR3.out⟩, by first | exact measure_less HLT.out | (rw [HW.out]; exact measure_less HLT.out)⟩
    · have q1 : decide (k < n) = false := decide_eq_false hlt
      have hkn : k = n := by omega
      have HIMG := Lib.hid himg
      have HB := Lib.hid hb
      clear himg hb htl
      go_wp2
      go_ret
      have himg := HIMG.out
      have e : d.seenL.take k = d.seenL := List.take_of_length_le (by rw [HSL.out, HN.out]; omega)
      rw [e] at himg
      have hl : d.seenL.length = k := by rw [HSL.out, HN.out, hkn]
      exact ⟨A9, cap9, by rw [hl]; rfl, by rw [hl]; exact himg.weak HB1.out.size, HB1.out.trans (HB.out.mono HB1.out.size)⟩
/-- A file of an image. -/
def findI (l : List (BS × BS)) (n : BS) : Option BS := (l.find? (fun x => x.1 == n)).map Prod.snd
def FindEnd (l : List (BS × BS)) (n : BS) (w : World) (e : Ending) (w' : World) : Prop :=
  w' = w ∧ ((∃ x A cap, findI l n = some x ∧ e = .returned (.tuple #[.slice A x.length cap, .bool true]) ∧ Rd w A x ∧ x.length ≤ cap) ∨ (findI l n = none ∧ e = .returned (.tuple #[.slice none 0 0, .bool false])))
theorem findI_step {l : List (BS × BS)} {n : BS} {k : Nat} {x : BS × BS} (h : l[k]? = some x) (hn : ∀ (j : Nat) (y : BS × BS), j < k → l[j]? = some y → y.1 ≠ n) : x.1 = n → findI l n = some x.2 := fun e => by
  have hk := (List.getElem?_eq_some_iff.1 h).1
  have h1 : l = l.take k ++ l[k] :: l.drop (k + 1) := by
    rw [← List.drop_eq_getElem_cons hk, List.take_append_drop]
  have h2 : l[k] = x := by rw [List.getElem?_eq_getElem hk] at h; injection h
  unfold findI
  rw [h1, List.find?_append, List.find?_eq_none.2, Option.none_or, List.find?_cons_of_pos, h2]
  · rfl
  · rw [h2, e]; simp
  · intro y hy
    obtain ⟨j, hj, e2⟩ := List.getElem_of_mem hy
    rw [List.length_take] at hj
    have := hn j y (by omega) (by rw [List.getElem?_eq_getElem (by omega)]; rw [← e2]; simp)
    simpa using this
theorem findI_none {l : List (BS × BS)} {n : BS} (hn : ∀ (j : Nat) (y : BS × BS), l[j]? = some y → y.1 ≠ n) : findI l n = none := by
  unfold findI
  rw [List.find?_eq_none.2]
  · rfl
  · intro y hy
    obtain ⟨j, hj, e2⟩ := List.getElem_of_mem hy
    have := hn j y (by rw [List.getElem?_eq_getElem hj, e2])
    simpa using this
def FindRel (w : World) (l : List (BS × BS)) (n : BS) (len : Nat) (iv : Value) (wr : World) : Prop := ∃ k : Nat, iv = .int .i64 k ∧ k ≤ len ∧ (∀ (j : Nat) (y : BS × BS), j < k → l[j]? = some y → y.1 ≠ n) ∧ wr = w
set_option maxRecDepth 100000 in
set_option maxHeartbeats 4000000 in
theorem lawfind_any (w : World) (A : Option Addr) (len cap : Nat) (l : List (BS × BS)) (hl : l.length = len) (hr : RdI w A l) (s : ByteArray) (hb : len ≤ 1000000000) :
    Calls Try.prog 27 #[.slice A len cap, .string s] w (FindEnd l s.data.toList w) := by
  have HL := Lib.hid hl
  have HR := Lib.hid hr
  have HB := Lib.hid hb
  clear hl hr hb
  go_enter Try.func27, Try.ntmps27
  go_wp2
  go_loopw [6] (fun iv wr => FindRel w l s.data.toList len iv wr) (fun iv _ => (len - intOf iv).toNat)
  case atStart => exact ⟨0, rfl, Nat.zero_le _, fun j y h _ => by omega, rfl⟩
  case round =>
    obtain ⟨k, rfl, hk, hno, rfl⟩ := hrel
    have HNO := Lib.hid hno
    clear hno
    by_cases hlt : k < len
    · have q1 : (k : Int) < (len : Int) := by omega
      have hll := HL.out
      obtain ⟨x, hx⟩ : ∃ x, l[k]? = some x := ⟨l[k]'(by omega), List.getElem?_eq_getElem _⟩
      obtain ⟨g, o, Ad, cp, rfl, d1, d2, rx, hcx⟩ := HR.out k x hx
      have HX := Lib.hid hx
      have HRX := Lib.hid (And.intro rx hcx)
      have HW := Lib.hid (w64s (k := k) (by have := HB.out; omega))
      have HLT := Lib.hid hlt
      obtain ⟨bl, hbl⟩ : ∃ bl, x.2.length = bl := ⟨_, rfl⟩
      rw [hbl] at d2
      have HBL := Lib.hid hbl
      by_cases he : x.1 = s.data.toList
      · have e1 : str x.1 = s := by rw [he]; exact str_list s
        rw [e1] at d1
        have HE := Lib.hid (findI_step HX.out HNO.out he)
        clear hx rx hcx hll hlt hbl he e1 hk
        go_wp2
        go_ret2
        exact ⟨rfl, .inl ⟨x.2, Ad, cp, HE.out, by rw [HBL.out]; rfl, HRX.out⟩⟩
      · have hne : str x.1 ≠ s := fun e => he (by rw [← e]; exact (list_str x.1).symm)
        have t3 := str_ne hne
        obtain ⟨s1, hs1⟩ : ∃ s1, str x.1 = s1 := ⟨_, rfl⟩
        rw [hs1] at d1 t3 hne
        have t4 : (s1 == s) = false := by
          cases hb : s1 == s with
          | true => exact absurd ((MapKept.bytes_beq s1 s).1 hb) hne
          | false => rfl
        have HE := Lib.hid he
        clear hx rx hcx hll hlt hbl he hs1 hk hne d2
        go_wp2
        exact ⟨⟨k + 1, by first | rfl | exact congrArg _ HW.out, HLT.out, fun j y hj hy => by
          by_cases hjk : j = k
          · subst hjk
            rw [HX.out] at hy
            injection hy with hy
            rw [← hy]
            exact HE.out
          · exact HNO.out j y (by omega) hy, rfl⟩, by first | exact measure_less HLT.out | (rw [HW.out]; exact measure_less HLT.out)⟩
    · have q1 : decide (k < len) = false := decide_eq_false hlt
      have HE := Lib.hid (findI_none (l := l) (n := s.data.toList) fun j y hy => HNO.out j y (by have := (List.getElem?_eq_some_iff.1 hy).1; have := HL.out; omega) hy)
      go_wp2
      go_ret2
      exact ⟨rfl, .inr ⟨HE.out, rfl⟩⟩
end Go.Proofs.Ytgkpobajafjdeaa

/- What is seen of a disk; the plain law of DiskRoom. Of no program. -/
namespace Go.Proofs.Ytgkpobajafjdeaa

/-- No plan, and the power is on. -/
structure DM.Calm (d : DM) : Prop where
  off : d.off = false
  plan : d.plan = ⟨0, 0, 0⟩
theorem bytes_at {d : DM} (h : d.Ok) (ho : d.off = false) {p : BS × Nat} (hp : p ∈ d.names) : d.bytes p.1 = (d.file p.2).seen := by
  have hg := NM.get_of h.nameG.ok (n := p.1) (f := p.2) hp
  refine bytes_some ?_ hg
  unfold DM.err
  rw [ho, h.nameG.fair p hp, hg]
  rfl
theorem seenL_eq {d : DM} (h : d.Ok) (ho : d.off = false) : d.seenL = d.names.map fun p => (p.1, (d.file p.2).seen) := by
  unfold DM.seenL
  rw [ho]
  exact List.map_congr_left fun p hp => by rw [bytes_at h ho hp]
def imgSum (l : List (BS × BS)) : Nat := (l.map fun x => x.2.length).sum
theorem imgSum_seen {d : DM} (h : d.Ok) (ho : d.off = false) : imgSum d.seenL = d.used := by
  rw [seenL_eq h ho]
  unfold imgSum DM.used
  rw [List.map_map]
  rfl
theorem imgSum_more {l : List (BS × BS)} {k : Nat} {x : BS × BS} (h : l[k]? = some x) : imgSum (l.take (k + 1)) = imgSum (l.take k) + x.2.length := by
  unfold imgSum
  rw [take_snoc h, List.map_append, List.sum_append]
  simp
theorem findI_map (g : BS × Nat → BS) (n : BS) : ∀ l : NM, findI (l.map fun p => (p.1, g p)) n = (l.find? (fun p => p.1 == n)).map g
  | [] => rfl
  | y :: r => by
    have ih := findI_map g n r
    unfold findI at *
    rw [List.map_cons, List.find?_cons, List.find?_cons]
    cases hy : y.1 == n with
    | true => simp
    | false => simpa using ih
theorem findI_seen {d : DM} (h : d.Ok) (ho : d.off = false) (n : BS) : findI d.seenL n = (d.names.get n).map fun f => (d.file f).seen := by
  rw [seenL_eq h ho, findI_map (fun p => (d.file p.2).seen)]
  unfold NM.get
  rw [Option.map_map]
  rfl
theorem stroke_off {d : DM} (h : d.Calm) : d.stroke.off = false := by
  unfold DM.stroke
  rw [h.plan]
  simp
  omega
theorem stroke_full {d : DM} (h : d.Calm) : d.stroke.isFull = false := by
  unfold DM.isFull
  rw [stroke_room d |>.2, h.plan]
  simp
theorem op_calm {d : DM} (h : d.Calm) (o : OpM) : (d.op o).1.Calm := by
  refine ⟨?_, (op_room d o).2.trans h.plan⟩
  have hs := stroke_off h
  unfold DM.op
  repeat' split
  · rcases append_ways d o.name o.b with e | e | ⟨f, _, _, e⟩ | ⟨_, _, _, _, _, e⟩ <;> rw [e] <;> first | exact h.off | exact hs
  · rcases cut_ways d o.name o.n with e | e | ⟨f, _, _, _, _, e⟩ <;> rw [e] <;> first | exact h.off | exact hs
  · rcases sync_ways d o.name with e | e | ⟨f, _, _, _, e⟩ <;> rw [e] <;> first | exact h.off | exact hs
  · rcases syncNames_ways d with e | e | ⟨_, _, e⟩ <;> rw [e] <;> first | exact h.off | exact hs
  · rcases rename_ways d o.name o.dst with e | e | ⟨f, _, _, _, _, e⟩ <;> rw [e] <;> first | exact h.off | exact hs
  · rcases remove_ways d o.name with e | ⟨f, _, _, e⟩ <;> rw [e] <;> first | exact h.off | exact hs
  · exact h.off
theorem Calm.new (room : Int) : (DM.new room).Calm := ⟨rfl, rfl⟩
theorem seenL_stroke {d : DM} (h : d.Calm) : d.stroke.seenL = d.seenL := by
  have hs := stroke_off h
  have e : ∀ n, d.stroke.err n = d.err n := fun n => by unfold DM.err; rw [hs, h.off]; rfl
  unfold DM.seenL
  rw [hs, h.off]
  refine List.map_congr_left fun p _ => ?_
  unfold DM.bytes
  rw [e]
  rfl
/-- What an append on a calm disk does: the error is 41 and nothing turns; or it has no room (44) and nothing that is seen turns; or it has room, and the file is longer by just these bytes. -/
theorem append_calm {d : DM} (h : d.Ok) (hc : d.Calm) (n b : BS) :
    (d.append n b).2 = 41 ∨
    ((d.append n b).2 = 44 ∧ ¬ ((d.used + b.length : Nat) : Int) ≤ d.room ∧ (d.append n b).1.seenL = d.seenL) ∨
    ((d.append n b).2 = 0 ∧ ((d.used + b.length : Nat) : Int) ≤ d.room ∧ findI (d.append n b).1.seenL n = some ((findI d.seenL n).getD [] ++ b)) := by
  have hs := stroke_off hc
  have hf := stroke_full hc
  have hno : d.stroke.no b.length = decide (¬ ((d.used + b.length : Nat) : Int) ≤ d.room) := by
    unfold DM.no
    rw [hf, Bool.false_or]
    have e1 : d.stroke.room = d.room := rfl
    have e2 : d.stroke.used = d.used := rfl
    rw [e1, e2]
    congr 1
    simp only [eq_iff_iff]
    omega
  by_cases h1 : d.err n = 45
  · rcases err_cases d n with ⟨e, _⟩ | ⟨_, _, e⟩ | ⟨_, _, _, e⟩ | ⟨_, _, _, e⟩
    · rw [hc.off] at e; cases e
    · rw [h1] at e; cases e
    · rw [h1] at e; cases e
    · rw [h1] at e; cases e
  by_cases h2 : d.err n = 41
  · left; unfold DM.append; rw [if_neg h1, if_pos h2]
  cases hg : d.names.get n with
  | some f =>
    cases hn : d.stroke.no b.length with
    | true =>
      right; left
      have e : d.append n b = (d.stroke, 44) := by
        unfold DM.append; rw [if_neg h1, if_neg h2]; simp only [hg, hn, if_true, hs]; rfl
      rw [e]
      exact ⟨rfl, by rw [hno] at hn; simpa using hn, seenL_stroke hc⟩
    | false =>
      right; right
      have e : d.append n b = (d.stroke.addTo f b, 0) := by
        unfold DM.append; rw [if_neg h1, if_neg h2]; simp only [hg, hn, hs]; rfl
      have hok := h.append n b
      rw [e] at hok
      rw [e]
      refine ⟨rfl, by rw [hno] at hn; simpa using hn, ?_⟩
      have hfl : f < d.stroke.files.length := h.nameG.idx _ (NM.get_mem hg)
      rw [findI_seen h hc.off, findI_seen hok hs, hg]
      have e2 : (d.stroke.addTo f b).names.get n = some f := hg
      rw [e2]
      show some ((d.stroke.addTo f b).file f).seen = some ((d.file f).seen ++ b)
      unfold DM.addTo
      rw [setF_file d.stroke hfl]
      rfl
  | none =>
    rcases Nat.lt_or_ge d.names.length 64 with hl | hl
    · cases hn : d.stroke.no b.length with
      | true =>
        right; left
        have e : d.append n b = (d.stroke, 44) := by
          unfold DM.append; rw [if_neg h1, if_neg h2]; simp only [hg, hn, if_true, hs]; rw [if_neg (by omega)]; rfl
        rw [e]
        exact ⟨rfl, by rw [hno] at hn; simpa using hn, seenL_stroke hc⟩
      | false =>
        right; right
        have e : d.append n b = ((d.stroke.make n).addTo d.files.length b, 0) := by
          unfold DM.append; rw [if_neg h1, if_neg h2]; simp only [hg, hn, hs]; rw [if_neg (by omega)]; rfl
        have hok := h.append n b
        rw [e] at hok
        rw [e]
        refine ⟨rfl, by rw [hno] at hn; simpa using hn, ?_⟩
        have hfl : d.files.length < (d.stroke.make n).files.length := by rw [make_len]; exact Nat.lt_succ_self _
        rw [findI_seen h hc.off, findI_seen hok hs, hg]
        have e2 : ((d.stroke.make n).addTo d.files.length b).names.get n = some d.files.length := NM.get_put_same h.nameG.ok n _
        rw [e2]
        show some (((d.stroke.make n).addTo d.files.length b).file d.files.length).seen = some ([] ++ b)
        unfold DM.addTo
        rw [setF_file _ hfl]
        show some (((d.stroke.make n).file d.files.length).seen ++ b) = _
        rw [make_any d.stroke n (j := d.files.length) (Nat.lt_irrefl _)]
    · left; unfold DM.append; rw [if_neg h1, if_neg h2]; simp only [hg]; rw [if_pos hl]
end Go.Proofs.Ytgkpobajafjdeaa

/- DiskRoom: words for its walk. -/
namespace Go.Proofs.Ytgkpobajafjdeaa
open Go.RowKit Go.Maps

/-- A list of a caller's own is left alone by a step of a disk. -/
theorem ImgAt.calm {R : Nat → Prop} {w w' : World} {base : Nat} {ρ ρ' : Nat → Nat} {sv : Value} {img : List (BS × BS)} (h : ImgAt w base sv img) (hz : ∀ g, base ≤ g → ρ g = 0) (K : Keeps R w ρ w' ρ') (hR : ¬ R 0) : ImgAt w' base sv img := by
  have one : ∀ {e : TypeId} {sz n : Nat} {v : Value} {c : Nat → Value}, One w base e sz v n c → One w' base e sz v n c := fun ho => ho.same fun g hg => (K.2 g (ho.block hg).2).2 (by rw [hz g (ho.block hg).1]; exact hR)
  obtain ⟨l, h1, h2, h3⟩ := h
  refine ⟨l, one h1, h2, fun k y hk => ?_⟩
  obtain ⟨v, e, o⟩ := h3 k y hk
  exact ⟨v, e, one o⟩
theorem ro1 : ¬ ∃ k, (0 : Nat) = ro 1 k := fun ⟨k, h⟩ => by unfold ro at h; omega
/-- A disk and the steps, in a law's loop: k steps are done. -/
structure LoopAt (W : World) (D : Nat) (qs : List OpQ) (A : Option Addr) (cap : Nat) (d : DM) (k : Nat) (ρ : Nat → Nat) (wr : World) : Prop where
  disk : DiskAt wr W.heap.size ρ 1 D d
  free : Free wr ρ
  ok : d.Ok
  sz : d.Sz k (4096 * k)
  below : Below W.heap.size W wr
  zero : ∀ g, g < W.heap.size → ρ g = 0
  ops : LstZ wr W.heap.size ρ 0 58 10 (.slice A qs.length cap) qs.length (cO qs)
theorem LoopAt.next {W wr w' : World} {D k cap : Nat} {qs : List OpQ} {A : Option Addr} {d d' : DM} {ρ : Nat → Nat} (h : LoopAt W D qs A cap d k ρ wr) (he : DkEnd W.heap.size ρ 1 D d' wr w') (hok : d'.Ok) {k' : Nat} (hsz : d'.Sz k' (4096 * k')) : ∃ ρ', LoopAt W D qs A cap d' k' ρ' w' ∧ Keeps (fun r => ∃ k, r = ro 1 k) wr ρ w' ρ' := by
  obtain ⟨ρ', h1, h2, h3, h4⟩ := he
  exact ⟨ρ', ⟨h1, h3, hok, hsz, h.below.trans h4, fun g hg => ((h2.2 g (Nat.lt_of_lt_of_le hg h.below.size)).1).trans (h.zero g hg), h.ops.keep h2 ro1⟩, h2⟩
theorem LoopAt.go {W wr w' : World} {D k cap : Nat} {qs : List OpQ} {A : Option Addr} {d : DM} {ρ : Nat → Nat} (h : LoopAt W D qs A cap d k ρ wr) (hb : Below wr.heap.size wr w') : LoopAt W D qs A cap d k ρ w' :=
  ⟨h.disk.below hb, h.free.le hb.size, h.ok, h.sz, h.below.trans (hb.mono h.below.size), h.zero, h.ops.keep (Keeps.below (fun _ => False) ρ hb) id⟩
theorem LoopAt.op {W wr : World} {D k cap : Nat} {qs : List OpQ} {A : Option Addr} {d : DM} {ρ : Nat → Nat} (h : LoopAt W D qs A cap d k ρ wr) (hqs : ∀ q ∈ qs, q.At W W.heap.size ∧ q.b.length ≤ 4096) {j : Nat} {q : OpQ} (hj : qs[j]? = some q) (hk : k ≤ 1000) :
    Calls Try.prog 26 #[.pointer (some ⟨D, 0, none⟩), q.agg] wr fun e w' => e = .returned (.int .i64 (d.op q.toM).2) ∧ ∃ ρ', LoopAt W D qs A cap (d.op q.toM).1 (k + 1) ρ' w' ∧ Keeps (fun r => ∃ k, r = ro 1 k) wr ρ w' ρ' := by
  have hq := hqs q (List.mem_of_getElem? hj)
  refine (lawplay_any wr W.heap.size 1 D ρ d h.disk (by omega) h.free h.ok h.sz (by omega) (by omega) q (hq.1.below h.below) (fun g hg x => by rw [h.zero g hg]; unfold ro; omega) (by have := hq.2; omega)).mono ?_
  rintro e w' ⟨rfl, he⟩
  exact ⟨rfl, h.next he (h.ok.op _) ((h.sz.op h.ok q.toM).mono (Nat.le_refl _) (by have := hq.2; show 4096 * k + q.b.length ≤ _; omega))⟩
/-- Step j, in memory. -/
theorem LoopAt.at_ {W wr : World} {D k cap : Nat} {qs : List OpQ} {A : Option Addr} {d : DM} {ρ : Nat → Nat} (h : LoopAt W D qs A cap d k ρ wr) {j : Nat} {q : OpQ} (hj : qs[j]? = some q) : ∃ g, A = some ⟨g, 0, none⟩ ∧ wr.cell? ⟨g, j * 10, none⟩ = some (.int .i64 q.kind) ∧ wr.cell? ⟨g, j * 10 + 1, none⟩ = some (.int .i64 q.on) ∧ wr.cell? ⟨g, j * 10 + 2, none⟩ = some (.int .i64 q.n) ∧ wr.cell? ⟨g, j * 10 + 3, none⟩ = some (.string q.name) ∧ wr.cell? ⟨g, j * 10 + 4, none⟩ = some (.string q.dst) ∧ wr.cell? ⟨g, j * 10 + 5, none⟩ = some (.slice q.Ab q.b.length q.cb) ∧ wr.cell? ⟨g, j * 10 + 6, none⟩ = some (.int .i64 q.p0) ∧ wr.cell? ⟨g, j * 10 + 7, none⟩ = some (.int .i64 q.p1) ∧ wr.cell? ⟨g, j * 10 + 8, none⟩ = some (.int .i64 q.p2) ∧ wr.cell? ⟨g, j * 10 + 9, none⟩ = some (.slice q.Ap q.np q.cp) := by
  obtain ⟨g, o, e, hc⟩ := h.ops.1.opsIn rfl j q hj
  have ho : o = 0 := by
    obtain ⟨g', e', _⟩ := h.ops.1.getN (k := 0) (by have := (List.getElem?_eq_some_iff.1 hj).1; omega) (by have := (List.getElem?_eq_some_iff.1 hj).1; omega)
    rw [e] at e'
    injection e' with e'
    injection e' with _ e'
  subst ho
  have h0 := hc 0 (by omega)
  rw [Nat.add_zero, Nat.zero_add] at h0
  refine ⟨g, e, h0, ?_, ?_, ?_, ?_, ?_, ?_, ?_, ?_, ?_⟩
  · have := hc 1 (by omega); rw [Nat.zero_add] at this; exact this
  · have := hc 2 (by omega); rw [Nat.zero_add] at this; exact this
  · have := hc 3 (by omega); rw [Nat.zero_add] at this; exact this
  · have := hc 4 (by omega); rw [Nat.zero_add] at this; exact this
  · have := hc 5 (by omega); rw [Nat.zero_add] at this; exact this
  · have := hc 6 (by omega); rw [Nat.zero_add] at this; exact this
  · have := hc 7 (by omega); rw [Nat.zero_add] at this; exact this
  · have := hc 8 (by omega); rw [Nat.zero_add] at this; exact this
  · have := hc 9 (by omega); rw [Nat.zero_add] at this; exact this
theorem LoopAt.seen {W wr : World} {D k cap : Nat} {qs : List OpQ} {A : Option Addr} {d : DM} {ρ : Nat → Nat} (h : LoopAt W D qs A cap d k ρ wr) : Calls Try.prog 25 #[.pointer (some ⟨D, 0, none⟩)] wr (SeenEnd d.seenL wr) := by
  obtain ⟨fb, bN, bS, chv, hd⟩ := h.disk
  exact seen_any wr W.heap.size 1 D bN bS ρ d fb chv hd h.ok
theorem LoopAt.new {W wr w' : World} {D : Nat} {ρ : Nat → Nat} {room : Int} (hr : 0 ≤ room ∧ room ≤ 67108864) (hb : Below W.heap.size W wr) (hρ : ∀ g, ρ g = 0) (he : DkEnd W.heap.size ρ 1 D (DM.new room) wr w') {qs : List OpQ} {w2 : World} {A : Option Addr} {cap : Nat} (hf : One w2 w'.heap.size 58 10 (.slice A qs.length cap) qs.length (cO qs)) (hb2 : Below w'.heap.size w' w2) : ∃ ρ', LoopAt W D qs A cap (DM.new room) 0 ρ' w2 := by
  obtain ⟨ρ', h1, h2, h3, h4⟩ := he
  have hbW := hb.trans h4
  refine ⟨ρ', h1.below hb2, h3.le hb2.size, DM.Ok.new hr, DM.Sz.new room, hbW.trans (hb2.mono hbW.size), fun g hg => ((h2.2 g (Nat.lt_of_lt_of_le hg hb.size)).1).trans (hρ g), hf.weak hbW.size, fun g hg => h3 g (hf.block hg).1⟩
def SumRel (L : Nat) (img : List (BS × BS)) (w2 : World) (uv jv : Value) (wq : World) : Prop := ∃ j : Nat, jv = .int .i64 j ∧ j ≤ L ∧ uv = .int .i64 (imgSum (img.take j) : Nat) ∧ wq = w2
def RoomRel (W : World) (D : Nat) (qs : List OpQ) (A : Option Addr) (cap : Nat) (room : Int) (iv : Value) (wr : World) : Prop := ∃ (k : Nat) (d : DM) (ρ : Nat → Nat), iv = .int .i64 k ∧ k ≤ qs.length ∧ LoopAt W D qs A cap d k ρ wr ∧ d.Calm ∧ d.room = room
theorem below_drewN (w : World) (n : Nat) : Below w.heap.size w (w.drewN n) := ⟨rfl, rfl, rfl, Nat.le_refl _, fun _ _ => rfl⟩
theorem Rd.src {w : World} {A : Option Addr} {b : BS} (h : Rd w A b) : SrcAt w A b := fun hn => by
  obtain ⟨g, o, e, _⟩ := h 0 (b[0]'hn) (List.getElem?_eq_getElem hn)
  refine ⟨_, e, fun j v hj => ?_⟩
  have hjl : j < b.length := by
    rcases Nat.lt_or_ge j b.length with h | h
    · exact h
    · rw [List.getElem?_eq_none (by simpa using h)] at hj; cases hj
  obtain ⟨g', o', e', hc⟩ := h j (b[j]'hjl) (List.getElem?_eq_getElem hjl)
  rw [e] at e'
  injection e' with e'
  injection e' with e1 e2
  subst e1 e2
  rw [List.getElem?_map, List.getElem?_eq_getElem hjl] at hj
  simp at hj
  subst hj
  by_cases h0 : j = 0
  · subst h0; simpa [Addr.add] using hc
  · simpa [Addr.add, h0] using hc
theorem find_all (w : World) (A : Option Addr) (len cap : Nat) (l : List (BS × BS)) (hl : l.length = len) (hr : RdI w A l) (s : ByteArray) (hb : len ≤ 1000000000) {x : BS} {f : Bool} (hx : (findI l s.data.toList).getD [] = x) (hf : (findI l s.data.toList).isSome = f) :
    Calls Try.prog 27 #[.slice A len cap, .string s] w fun e w' => (∃ A' cap', e = .returned (.tuple #[.slice A' x.length cap', .bool f]) ∧ Rd w A' x ∧ x.length ≤ cap') ∧ w = w' := by
  refine (lawfind_any w A len cap l hl hr s hb).mono ?_
  rintro e w' ⟨rfl, ⟨y, A', cap', h1, rfl, h2⟩ | ⟨h1, rfl⟩⟩
  · rw [h1] at hx hf
    subst hx hf
    exact ⟨⟨A', cap', rfl, h2⟩, rfl⟩
  · rw [h1] at hx hf
    subst hx hf
    exact ⟨⟨none, 0, rfl, fun k c hk => by simp at hk, Nat.le_refl _⟩, rfl⟩
theorem findI_le {l : List (BS × BS)} {n x : BS} (h : findI l n = some x) : x.length ≤ imgSum l := by
  unfold findI at h
  cases hf : l.find? (fun x => x.1 == n) with
  | none => rw [hf] at h; cases h
  | some y =>
    rw [hf] at h
    injection h with h
    subst h
    exact sum_le_of_mem (List.mem_map.2 ⟨y, List.mem_of_find?_eq_some hf, rfl⟩)
theorem findD_le (l : List (BS × BS)) (n : BS) : ((findI l n).getD []).length ≤ imgSum l := by
  cases h : findI l n with
  | none => exact Nat.zero_le _
  | some x => exact findI_le h
theorem img_le {l : List (BS × BS)} {x : BS × BS} (h : x ∈ l) : x.2.length ≤ imgSum l := sum_le_of_mem (List.mem_map.2 ⟨x, h, rfl⟩)
end Go.Proofs.Ytgkpobajafjdeaa

/- The laws' arguments opened: steps, bytes, picks, files. -/
namespace Go.Proofs.Ytgkpobajafjdeaa
open Go.ChangeShapes Go.WideShapes Go.ChangeAt Go.RowKit

theorem list2 {α : Type} {l : List α} (h : l.length = 2) : ∃ a b, l = [a, b] := by
  match l, h with
  | [a, b], _ => exact ⟨a, b, rfl⟩
theorem list3 {α : Type} {l : List α} (h : l.length = 3) : ∃ a b c, l = [a, b, c] := by
  match l, h with
  | [a, b, c], _ => exact ⟨a, b, c, rfl⟩
theorem list5 {α : Type} {l : List α} (h : l.length = 5) : ∃ a b c d e, l = [a, b, c, d, e] := by
  match l, h with
  | [a, b, c, d, e], _ => exact ⟨a, b, c, d, e, rfl⟩
theorem list10 {α : Type} {l : List α} (h : l.length = 10) : ∃ a b c d e f g i j k, l = [a, b, c, d, e, f, g, i, j, k] := by
  match l, h with
  | [a, b, c, d, e, f, g, i, j, k], _ => exact ⟨a, b, c, d, e, f, g, i, j, k, rfl⟩
theorem choose_list {α : Type} {p : Nat → α → Prop} : ∀ (n : Nat), (∀ i, i < n → ∃ v, p i v) → ∃ l : List α, l.length = n ∧ ∀ k e, l[k]? = some e → p k e
  | 0, _ => ⟨[], rfl, fun k e h => by simp at h⟩
  | n + 1, h => by
    obtain ⟨l, hl, hp⟩ := choose_list n (fun i hi => h i (by omega))
    obtain ⟨v, hv⟩ := h n (by omega)
    refine ⟨l ++ [v], by simp [hl], fun k e hk => ?_⟩
    by_cases hkl : k < l.length
    · rw [List.getElem?_append_left hkl] at hk
      exact hp k e hk
    · rw [List.getElem?_append_right (by omega)] at hk
      have hk0 : k - l.length = 0 := by
        rcases Nat.eq_zero_or_pos (k - l.length) with h | h
        · exact h
        · rw [List.getElem?_eq_none (by simp; omega)] at hk; cases hk
      rw [hk0] at hk
      simp at hk
      subst hk
      obtain rfl : k = n := by omega
      exact hv
theorem byte_of {n : Int} (h : (Lit.int .u8 n).wf = true) : ∃ c : UInt8, Value.int .u8 n = byteV c := by
  have hx : 0 ≤ n ∧ n ≤ 255 := by simpa [Lit.wf, IntKind.min, IntKind.max, IntKind.signed, IntKind.bits] using h
  refine ⟨UInt8.ofNat n.toNat, ?_⟩
  unfold byteV
  congr 1
  rw [UInt8.toNat_ofNat_of_lt' (by simp [UInt8.size]; omega)]
  omega
theorem bytes_in {W : World} {cs : List Value} (h : TrW Try.prog W 26 cs) : ∃ (A : Option Addr) (c : Nat) (b : BS), cs = [.slice A b.length c] ∧ b.length ≤ c ∧ Rd W A b ∧ (A = none → b.length = 0 ∧ c = 0) ∧ (∀ a, 0 < b.length → A = some a → a.block < W.heap.size) ∧ b.length ≤ 140737488351232 := by
  obtain ⟨A, n, c, rfl, h1, h2, hw, hnil, h3⟩ := TrW.slice Try.underlying26 (size := 1) (by kernel_rfl) (by omega) h
  rw [(by kernel_rfl : Try.prog.bytesOf 5 = 1)] at hw
  have hrb : reachBytes = 140737488351232 := rfl
  obtain ⟨b, hb, hp⟩ := choose_list (p := fun k (x : UInt8) => ∃ g off, A = some ⟨g, off, none⟩ ∧ g < W.heap.size ∧ W.cell? ⟨g, off + k, none⟩ = some (byteV x)) n (fun i hi => by
    obtain ⟨g, off, hA, es, hes, h4, h5, h6⟩ := h3 i hi
    obtain ⟨m, e, hm⟩ := h6.tr.int Try.underlying5
    obtain ⟨x, hx⟩ := byte_of hm
    refine ⟨x, g, off, hA, h4, ?_⟩
    have := h5 0 (by omega)
    rw [e] at this
    rw [← hx]
    simpa using this)
  subst hb
  refine ⟨A, c, b, rfl, h1, fun k x hk => ?_, fun hA => ?_, fun a h0 ha => ?_, by omega⟩
  · obtain ⟨g, off, e, _, hc⟩ := hp k x hk
    exact ⟨g, off, e, hc⟩
  · have := hnil hA; omega
  · obtain ⟨g, off, e, hg, _⟩ := hp 0 (b[0]'h0) (List.getElem?_eq_getElem h0)
    rw [ha] at e
    injection e with e
    subst e
    exact hg
/-- Picks in memory. -/
def PicksIn (W : World) (A : Option Addr) (ps : List Int) : Prop := ∀ (k : Nat) (p : Int), ps[k]? = some p → ∃ pb off, A = some ⟨pb, off, none⟩ ∧ pb < W.heap.size ∧ W.cell? ⟨pb, off + k, none⟩ = some (.int .i64 p)
theorem PicksIn.below {w w' : World} {A : Option Addr} {ps : List Int} (h : PicksIn w A ps) (hb : Below w.heap.size w w') : PicksIn w' A ps := fun k p hk => by
  obtain ⟨pb, off, e, hl, hc⟩ := h k p hk
  exact ⟨pb, off, e, Nat.lt_of_lt_of_le hl hb.size, cellKeep hb hc⟩
theorem ints_in {W : World} {cs : List Value} (h : TrW Try.prog W 23 cs) : ∃ (A : Option Addr) (c : Nat) (ps : List Int), cs = [.slice A ps.length c] ∧ ps.length ≤ c ∧ PicksIn W A ps := by
  obtain ⟨A, n, c, rfl, h1, h2, hw, hnil, h3⟩ := TrW.slice Try.underlying23 (size := 1) (by kernel_rfl) (by omega) h
  obtain ⟨b, hb, hp⟩ := choose_list (p := fun k (x : Int) => ∃ g off, A = some ⟨g, off, none⟩ ∧ g < W.heap.size ∧ W.cell? ⟨g, off + k, none⟩ = some (.int .i64 x)) n (fun i hi => by
    obtain ⟨g, off, hA, es, hes, h4, h5, h6⟩ := h3 i hi
    obtain ⟨m, e, hm⟩ := h6.tr.int Try.underlying3
    refine ⟨m, g, off, hA, h4, ?_⟩
    have := h5 0 (by omega)
    rw [e] at this
    simpa using this)
  subst hb
  exact ⟨A, c, b, rfl, h1, fun k x hk => hp k x hk⟩
theorem op_open {W : World} {es : List Value} (h : TrW Try.prog W 58 es) : ∃ q : OpQ, es = q.cells.toList ∧ q.At W W.heap.size := by
  have hl := (TrW.struct Try.underlying58 h).1
  obtain ⟨x0, x1, x2, x3, x4, x5, x6, x7, x8, x9, rfl⟩ := list10 (hl.trans (by kernel_rfl : _ = 10))
  have h0 := TrW.field Try.underlying58 h 0 rfl (n := 1) (by kernel_rfl)
  have h1 := TrW.field Try.underlying58 h 1 rfl (n := 1) (by kernel_rfl)
  have h2 := TrW.field Try.underlying58 h 2 rfl (n := 1) (by kernel_rfl)
  have h3 := TrW.field Try.underlying58 h 3 rfl (n := 1) (by kernel_rfl)
  have h4 := TrW.field Try.underlying58 h 4 rfl (n := 1) (by kernel_rfl)
  have h5 := TrW.field Try.underlying58 h 5 rfl (n := 1) (by kernel_rfl)
  have h6 := TrW.field Try.underlying58 h 6 rfl (n := 3) (by kernel_rfl)
  have h7 := TrW.field Try.underlying58 h 7 rfl (n := 1) (by kernel_rfl)
  have p0 := TrW.field Try.underlying56 h6 0 rfl (n := 1) (by kernel_rfl)
  have p1 := TrW.field Try.underlying56 h6 1 rfl (n := 1) (by kernel_rfl)
  have p2 := TrW.field Try.underlying56 h6 2 rfl (n := 1) (by kernel_rfl)
  obtain ⟨a0, e0, _⟩ := h0.tr.int Try.underlying3
  obtain ⟨a1, e1, _⟩ := h1.tr.int Try.underlying3
  obtain ⟨a2, e2, _⟩ := h2.tr.int Try.underlying3
  obtain ⟨a3, e3, s3⟩ := h3.tr.string Try.underlying9
  obtain ⟨a4, e4, s4⟩ := h4.tr.string Try.underlying9
  obtain ⟨Ab, cb, b, e5, hcap, hrd, hnil, hlt, _⟩ := bytes_in h5
  obtain ⟨b0, f0, _⟩ := p0.tr.int Try.underlying3
  obtain ⟨b1, f1, _⟩ := p1.tr.int Try.underlying3
  obtain ⟨b2, f2, _⟩ := p2.tr.int Try.underlying3
  obtain ⟨Ap, cp, ps, e7, _, _⟩ := ints_in h7
  simp at e0 e1 e2 e3 e4 e5 e7 f0 f1 f2
  subst e0 e1 e2 e3 e4 e5 e7 f0 f1 f2
  exact ⟨⟨a0, a1, a2, a3, a4, Ab, cb, b, b0, b1, b2, Ap, ps.length, cp⟩, rfl, hrd, hnil, hcap, hlt, s3, s4⟩
theorem OpQ.cell_cells (q : OpQ) {j : Nat} (hj : j < 10) : q.cells.toList[j]? = some (q.cell j) := by
  rcases (by omega : j = 0 ∨ j = 1 ∨ j = 2 ∨ j = 3 ∨ j = 4 ∨ j = 5 ∨ j = 6 ∨ j = 7 ∨ j = 8 ∨ j = 9) with rfl | rfl | rfl | rfl | rfl | rfl | rfl | rfl | rfl | rfl <;> rfl
theorem ops_in {W : World} {cs : List Value} (h : TrW Try.prog W 48 cs) : ∃ (A : Option Addr) (c : Nat) (l : List OpQ), cs = [.slice A l.length c] ∧ l.length ≤ c ∧ OpsIn W A l ∧ ∀ q ∈ l, q.At W W.heap.size := by
  obtain ⟨A, n, c, rfl, h1, h2, hw, hnil, h3⟩ := TrW.slice Try.underlying48 (size := 10) (by kernel_rfl) (by omega) h
  obtain ⟨l, hl, hp⟩ := choose_list (p := fun k (q : OpQ) => (∃ g off, A = some ⟨g, off, none⟩ ∧ ∀ j, j < 10 → W.cell? ⟨g, off + k * 10 + j, none⟩ = some (q.cell j)) ∧ q.At W W.heap.size) n (fun i hi => by
    obtain ⟨g, off, hA, es, hes, h4, h5, h6⟩ := h3 i hi
    obtain ⟨q, rfl, hq⟩ := op_open h6
    refine ⟨q, ⟨g, off, hA, fun j hj => ?_⟩, hq⟩
    rw [h5 j (by rw [hes]; exact hj)]
    exact q.cell_cells hj)
  subst hl
  refine ⟨A, c, l, rfl, h1, fun k q hk => (hp k q hk).1, fun q hq => ?_⟩
  obtain ⟨k, hk, e⟩ := List.getElem_of_mem hq
  exact (hp k q (by rw [List.getElem?_eq_getElem hk, e])).2
end Go.Proofs.Ytgkpobajafjdeaa
