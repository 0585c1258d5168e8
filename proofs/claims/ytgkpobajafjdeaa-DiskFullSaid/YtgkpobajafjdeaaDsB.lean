/- tallylaw4's begins, open, allSafe. -/
import Derived.Test.YtgkpobajafjdeaaDsA
import Derived.Laws.IdiomStrings
import Derived.Lib.SmallJoins
namespace Go.Proofs.Ytgkpobajafjdeaa
open Go.RowKit Go.Maps

theorem Rd.take {w : World} {A : Option Addr} {b : BS} (h : Rd w A b) (k : Nat) : Rd w A (b.take k) := fun j c hj => by
  have hjl := (List.getElem?_eq_some_iff.1 hj).1
  rw [List.length_take] at hjl
  rw [List.getElem?_take_of_lt (by omega)] at hj
  exact h j c hj
set_option maxRecDepth 100000 in
theorem begins_any (w : World) (A B : Option Addr) (a b : BS) (na nb ca cb : Nat) (hna : a.length = na) (hnb : b.length = nb) (ha : Rd w A a) (hb : Rd w B b) (hcb : nb ≤ cb) (hA : nb ≤ 1000000000000) :
    Calls Try.prog 31 #[.slice B nb cb, .slice A na ca] w (QuietEnd (.bool (beginsB b a)) w) := by
  by_cases hl : na ≤ nb
  · have t1 : decide (na ≤ nb) = true := decide_eq_true hl
    have hbt : (b.take na).length = na := by rw [List.length_take]; omega
    have hc := eq_any w B A (b.take na) a na na cb ca hbt hna (hb.take na) ha (by omega)
    have HC := Lib.hid hc
    have hsl := slice_to 26 (by kernel_rfl) 1 (fun w' => by kernel_rfl) B nb cb na (by omega)
    have hr : beginsB b a = decide (b.take na = a) := by unfold beginsB; rw [hna, hnb, t1, Bool.true_and]
    have HR := Lib.hid hr
    clear hna hnb ha hb hcb hA hl hbt hc hr
    go_enter Try.func31, Try.ntmps31
    go_wp2_with (go_at_call 19; (with_reducible refine HC.out.mono ?_); rintro e w1 ⟨rfl, n, rfl⟩)
    go_ret
    exact ⟨by rw [HR.out]; rfl, _, rfl⟩
  · have t1 : decide (na ≤ nb) = false := decide_eq_false hl
    have hr : beginsB b a = false := by unfold beginsB; rw [hna, hnb, t1, Bool.false_and]
    have HR := Lib.hid hr
    clear hna hnb ha hb hcb hA hl hr
    go_enter Try.func31, Try.ntmps31
    go_wp2
    go_ret
    exact ⟨by rw [HR.out]; rfl, 0, rfl⟩
theorem One.str {w : World} {base cap : Nat} {A : Option Addr} {b : BS} (h : One w base 5 1 (.slice A b.length cap) b.length (cB b)) (hn : 0 < b.length) : (convert 26 9 (.slice A b.length cap)).run Try.prog w = .ok (.string (str b)) w := by
  obtain ⟨g, rfl, _⟩ := h.getN hn (k := 0) (by omega)
  exact run_convert_bytes_back w 26 9 5 ⟨g, 0, none⟩ cap b Try.underlying26 Try.underlying5 Try.underlying9 (fun j hj => by
    have e : (⟨g, 0, none⟩ : Addr).add j = ⟨g, j, none⟩ := by unfold Addr.add; split <;> simp_all
    rw [e]
    obtain ⟨g', e', hc⟩ := h.getN (k := j) hn (by omega)
    injection e' with e'
    injection e' with e'
    subst e'
    rw [hc, cB_at (List.getElem?_eq_getElem hj)]
    rfl)
/-! ## open -/
def trial : DM := ((DM.new 4).append [97] [120, 121, 122]).1
theorem trial_err : ((DM.new 4).append [97] [120, 121, 122]).2 = 0 := by kernel_rfl
theorem trial_ok : trial.Ok := (DM.Ok.new ⟨by omega, by omega⟩).append _ _
theorem trial_bytes : trial.bytes [97] = [120, 121, 122] ∧ trial.err [97] = 0 := ⟨by kernel_rfl, by kernel_rfl⟩
theorem New.good {room : Int} (hr : 0 ≤ room ∧ room ≤ 67108864) (w : World) (base i : Nat) (ρ : Nat → Nat) (hf : Free w ρ) (hb : base ≤ w.heap.size) : Calls Try.prog 23 #[.int .i64 room] w fun e w' => ∃ D, e = .returned (.tuple #[.pointer (some ⟨D, 0, none⟩), .int .i64 0]) ∧ DkEnd base ρ i D (DM.new room) w w' :=
  (new_any w base i ρ room hf hb).mono (by
    rintro e w' (⟨h, _⟩ | ⟨_, h⟩)
    · exact absurd hr h
    · exact h)
def OpenEnd (base : Nat) (ρ : Nat → Nat) (i D : Nat) (d : DM) (w w' : World) : Prop := ∃ ρ', DiskAt w' base ρ' i D d ∧ Keeps (fun r => (∃ k, r = ro i k) ∨ ∃ k, r = ro 3 k) w ρ w' ρ' ∧ Free w' ρ' ∧ Below base w w'
/-- The trial disk: an append of three bytes in a new block. -/
theorem open_app {w w1 : World} {base T : Nat} {ρ : Nat → Nat} (hb : base ≤ w.heap.size) (h : DkEnd base ρ 3 T (DM.new 4) w w1) :
    Calls Try.prog 47 #[.pointer (some ⟨T, 0, none⟩), .string ⟨#[97]⟩, .slice (some ⟨w1.heap.size, 0, none⟩) 3 3] (w1.alloc (.cells #[.int .u8 120, .int .u8 121, .int .u8 122] 5 (3, 4))) fun e w2 => e = .returned (.int .i64 0) ∧ DkEnd base ρ 3 T trial w w2 := by
  obtain ⟨ρ1, ⟨fb, bN, bS, chv, hd⟩, K1, F1, B1⟩ := h
  have hal : Below w1.heap.size w1 (w1.alloc (.cells #[.int .u8 120, .int .u8 121, .int .u8 122] 5 (3, 4))) := (Below.refl _ _).alloc (Nat.le_refl _) _
  have hd1 := hd.below hal
  have hfar : SrcFar (w1.alloc (.cells #[.int .u8 120, .int .u8 121, .int .u8 122] 5 (3, 4))) ρ1 3 (some ⟨w1.heap.size, 0, none⟩) 3 [120, 121, 122] := fun _ => ⟨w1.heap.size, 0, rfl, by simp, fun x => by rw [F1 _ (Nat.le_refl _)]; unfold ro; omega, fun k hk => by
    rw [Nat.zero_add, World.cell?_alloc_mark]
    rcases (by omega : k = 0 ∨ k = 1 ∨ k = 2) with rfl | rfl | rfl <;> rfl⟩
  have hok : (DM.new 4).Ok := DM.Ok.new ⟨by omega, by omega⟩
  have hap := append_any _ base 3 T bN bS ρ1 (DM.new 4) fb chv hd1 (by omega) (F1.le hal.size) (hok.fit (DM.Sz.new 4) (by omega)) ⟨#[97]⟩ (by decide) hok.room 3 3 (some ⟨w1.heap.size, 0, none⟩) [120, 121, 122] rfl hfar (fun h => by cases h) (by omega) (fun f hg => by cases hg) hok.sureG.idx hok.chIdx
  refine hap.mono ?_
  rintro e w2 ⟨rfl, ρ2, h2, K2, F2, B2⟩
  refine ⟨by rw [show (DM.append (DM.new 4) (⟨#[97]⟩ : ByteArray).data.toList [120, 121, 122]).2 = 0 from trial_err], ρ2, h2, (K1.trans (Keeps.below _ ρ1 hal)).trans K2, F2, (B1.trans (hal.mono (Nat.le_trans hb (K1.1)))).trans B2⟩
theorem open_read {w w2 : World} {base T : Nat} {ρ : Nat → Nat} (h : DkEnd base ρ 3 T trial w w2) :
    Calls Try.prog 17 #[.pointer (some ⟨T, 0, none⟩), .string ⟨#[97]⟩] w2 fun e w3 => ∃ A cap, e = .returned (.tuple #[.slice A 3 cap, .int .i64 0]) ∧ (∀ w, w = w3 → (convert 26 9 (.slice A 3 cap)).run Try.prog w = .ok (.string ⟨#[120, 121, 122]⟩) w) ∧ Below w2.heap.size w2 w3 := by
  obtain ⟨ρ2, ⟨fb, bN, bS, chv, hd⟩, K2, F2, B2⟩ := h
  have hr := read_any w2 base 3 T bN bS ρ2 trial fb chv hd trial_ok.nameG.idx ⟨#[97]⟩ (by decide) (by have := trial_ok.bytes_le [97]; show (trial.bytes [97]).length ≤ _; omega)
  refine hr.mono ?_
  rintro e w3 ⟨A, cap, rfl, hT⟩
  have e1 : trial.bytes (⟨#[97]⟩ : ByteArray).data.toList = [120, 121, 122] := trial_bytes.1
  have e2 : trial.err (⟨#[97]⟩ : ByteArray).data.toList = 0 := trial_bytes.2
  rw [e1] at hT ⊢
  rw [e2]
  refine ⟨A, cap, rfl, fun w hw => ?_, hT.2⟩
  subst hw
  exact hT.1.str (by decide)
theorem open_new {w w2 w3 : World} {base T : Nat} {ρ : Nat → Nat} (hb : base ≤ w.heap.size) (h2 : DkEnd base ρ 3 T trial w w2) (hb3 : Below w2.heap.size w2 w3) (i : Nat) :
    Calls Try.prog 23 #[.int .i64 67108864] w3 fun e w' => ∃ D, e = .returned (.tuple #[.pointer (some ⟨D, 0, none⟩), .int .i64 0]) ∧ OpenEnd base ρ i D (DM.new 67108864) w w' := by
  obtain ⟨ρ2, _, K2, F2, B2⟩ := h2
  refine (New.good (room := 67108864) ⟨by omega, by omega⟩ w3 base i ρ2 (F2.le hb3.size) (Nat.le_trans (Nat.le_trans hb K2.1) hb3.size)).mono ?_
  rintro e w' ⟨D, rfl, ρ4, h4, K4, F4, B4⟩
  exact ⟨D, rfl, ρ4, h4, ((K2.mono (fun r h => .inr h)).trans (Keeps.below _ ρ2 hb3)).trans (K4.mono (fun r h => .inl h)), F4, (B2.trans (hb3.mono (Nat.le_trans hb K2.1))).trans B4⟩
set_option maxRecDepth 100000 in
set_option maxHeartbeats 4000000 in
theorem open_any (w : World) (base i : Nat) (ρ : Nat → Nat) (hF : Free w ρ) (hb : base ≤ w.heap.size) :
    Calls Try.prog 29 #[] w fun e w' => ∃ D, e = .returned (.pointer (some ⟨D, 0, none⟩)) ∧ OpenEnd base ρ i D (DM.new 67108864) w w' := by
  have h1 := New.good (room := 4) ⟨by omega, by omega⟩ w base 3 ρ hF hb
  have H1 := Lib.hid h1
  have HB := Lib.hid hb
  clear h1 hF hb
  go_enter Try.func29, Try.ntmps29
  go_wp2_with (first
    | (go_at_call 23; (with_reducible refine H1.out.mono ?_); rintro e w1 ⟨T, rfl, he1⟩; have hcv := Lib.run_convert_bytes_const (P := Try.prog) w1 26 5 #[.int .u8 120, .int .u8 121, .int .u8 122] 3 3 Try.underlying26 Try.underlying5; simp only [List.size_toArray, List.length_cons, List.length_nil, Nat.zero_add, Nat.reduceAdd] at hcv; have HA := Lib.hid (open_app HB.out he1); have HE1 := Lib.hid he1; clear he1)
    | (go_at_call 47; (with_reducible refine HA.out.mono ?_); rintro e w2 ⟨rfl, he2⟩; have HR := Lib.hid (open_read he2); have HE2 := Lib.hid he2; clear he2)
    | (go_at_call 17; (with_reducible refine HR.out.mono ?_); rintro e w3 ⟨A3, cap3, rfl, hcs, hb3⟩; have HN := Lib.hid (open_new HB.out HE2.out hb3 i); have HB3 := Lib.hid hb3; clear hb3)
    | (go_at_call 23; (with_reducible refine HN.out.mono ?_); rintro e w4 ⟨D, rfl, he4⟩; have HE4 := Lib.hid he4; clear he4)
    | (go_at_call 13; (with_reducible refine (num_any _ _).mono ?_); rintro e w3 ⟨rfl, rfl⟩)
    | fail)
  go_ret
  exact ⟨D, rfl, HE4.out⟩
end Go.Proofs.Ytgkpobajafjdeaa
