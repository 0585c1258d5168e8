/- tallylaw3's spread that keeps lists of ints alone: marked, others, rest, mark. -/
import Derived.Test.YtbgojhjlmlbfpaaProg
import Derived.Test.YtbgojhjlmlbfpaaKeep
namespace Go.Proofs.Ytbgojhjlmlbfpaa
open Go.RowKit

/-- The mark of list i. -/
def mkv (i : Nat) : Value := .int .i64 (-1 - (i : Int))
/-- A spread that keeps lists of ints alone: its block of role rB, its row of lists of role rR. -/
structure SprI (w : World) (base : Nat) (ρ : Nat → Nat) (rB rR Y : Nat) (f : Nat → Value) (V : List Value) : Prop where
  blk : Objr w ρ rB Y (cellsObj 123 8 f)
  rest : ∀ k, 1 ≤ k → k < 8 → f k = .slice none 0 0
  row : Lst w base ρ rR 31 (f 0) V.length (lst V)
  small : V.length ≤ 5000
theorem SprI.keep {R : Nat → Prop} {w w' : World} {base rB rR Y : Nat} {ρ ρ' : Nat → Nat} {f : Nat → Value} {V : List Value} (h : SprI w base ρ rB rR Y f V) (k : Keeps R w ρ w' ρ') (h1 : ¬ R rB) (h2 : ¬ R rR) : SprI w' base ρ' rB rR Y f V :=
  ⟨h.blk.keep k h1, h.rest, h.row.keep k h2, h.small⟩
/-- Every list holds its mark. -/
def MarkAll (w : World) (base : Nat) (ρ : Nat → Nat) (V : List Value) (b : Nat) : Prop := ∀ (i : Nat) (v : Value), V[i]? = some v → ∃ n, n ≤ b ∧ Lst w base ρ (9 + i) 3 v n (fun _ => mkv i)

def IRel (w : World) (N : Nat) (iv : Value) (wr : World) : Prop := ∃ i : Nat, iv = .int .i64 i ∧ i ≤ N ∧ w = wr
set_option maxRecDepth 100000 in
theorem others_none (w : World) (Y : Nat) (f : Nat → Value) (h : w.heap[Y]? = some (cellsObj 123 8 f)) (hr : ∀ k, 1 ≤ k → k < 8 → f k = .slice none 0 0) :
    Calls Try.prog 82 #[.pointer (some ⟨Y, 0, none⟩)] w fun e w' => e = .returned (.bool true) ∧ w = w' := by
  have c4 := obj_cell h 4 (by omega)
  have c5 := obj_cell h 5 (by omega)
  have c6 := obj_cell h 6 (by omega)
  have c7 := obj_cell h 7 (by omega)
  rw [hr 4 (by omega) (by omega)] at c4
  rw [hr 5 (by omega) (by omega)] at c5
  rw [hr 6 (by omega) (by omega)] at c6
  rw [hr 7 (by omega) (by omega)] at c7
  go_enter Try.func82, Try.ntmps82
  go_wp2
  repeat (refine wp_loop_rounds 1 ?_; rw [rounds_succ]; go_wp2)
  go_ret
  exact ⟨rfl, rfl⟩
set_option maxRecDepth 100000 in
theorem rest_none (w : World) (Y : Nat) (z : Value) (f : Nat → Value) (h : w.heap[Y]? = some (cellsObj 123 8 f)) (hr : ∀ k, 1 ≤ k → k < 8 → f k = .slice none 0 0) :
    Calls Try.prog 80 #[.pointer (some ⟨Y, 0, none⟩), z] w fun e w' => e = .returned (.tuple #[]) ∧ w = w' := by
  have c4 := obj_cell h 4 (by omega)
  have c5 := obj_cell h 5 (by omega)
  have c6 := obj_cell h 6 (by omega)
  have c7 := obj_cell h 7 (by omega)
  rw [hr 4 (by omega) (by omega)] at c4
  rw [hr 5 (by omega) (by omega)] at c5
  rw [hr 6 (by omega) (by omega)] at c6
  rw [hr 7 (by omega) (by omega)] at c7
  go_enter Try.func80, Try.ntmps80
  go_wp2
  repeat (refine wp_loop_rounds 1 ?_; rw [rounds_succ]; go_wp2)
  go_end0
  exact ⟨rfl, rfl⟩
set_option maxRecDepth 100000 in
set_option maxHeartbeats 1000000 in
theorem marked_ints (w : World) (Y base rB rR : Nat) (ρ : Nat → Nat) (f : Nat → Value) (V : List Value) (h : SprI w base ρ rB rR Y f V) (b : Nat) (hm : MarkAll w base ρ V b) (hb : b ≤ 1000000) :
    Calls Try.prog 46 #[.pointer (some ⟨Y, 0, none⟩)] w fun e w' => e = .returned (.bool true) ∧ w = w' := by
  have c0 := obj_cell h.blk.1 0 (by omega)
  have c1 := obj_cell h.blk.1 1 (by omega)
  have c2 := obj_cell h.blk.1 2 (by omega)
  have c3 := obj_cell h.blk.1 3 (by omega)
  rw [h.rest 1 (by omega) (by omega)] at c1
  rw [h.rest 2 (by omega) (by omega)] at c2
  rw [h.rest 3 (by omega) (by omega)] at c3
  obtain ⟨A0, cap0, e0⟩ := h.row.1.len
  have hrow := h.row.1
  rw [e0] at c0 hrow
  have hsm := h.small
  obtain ⟨N, hN⟩ : ∃ N, V.length = N := ⟨_, rfl⟩
  rw [hN] at c0 hrow hsm
  go_enter Try.func46, Try.ntmps46
  go_wp2
  go_loopw [3] (fun iv wr => IRel w N iv wr) (fun iv _ => (N - intOf iv).toNat)
  case atStart => exact ⟨0, rfl, by omega, rfl⟩
  case round =>
    obtain ⟨i, rfl, hi, rfl⟩ := hrel
    by_cases hiN : i < N
    · obtain ⟨v, hv⟩ : ∃ p, V[i]? = some p := ⟨V[i]'(by omega), List.getElem?_eq_getElem _⟩
      obtain ⟨g0, rfl, x0⟩ := hrow.get hiN
      rw [lst_at hv] at x0
      obtain ⟨n, hn, ho, _⟩ := hm i v hv
      obtain ⟨A, cp, rfl⟩ := ho.len
      have hn := Nat.le_trans hn hb
      clear hm hrow
      go_wp2
      go_loopw [4] (fun kv wr => IRel w n kv wr) (fun kv _ => (n - intOf kv).toNat)
      case atStart => exact ⟨0, rfl, by omega, rfl⟩
      case round =>
        obtain ⟨k, rfl, hk, rfl⟩ := hrel
        by_cases hkn : k < n
        · obtain ⟨g, rfl, hc⟩ := ho.get hkn
          unfold mkv at hc
          have hmm : ((-1 - (i : Int)) != (-1 - (i : Int))) = false := by simp
          clear ho
          go_wp2
          exact ⟨⟨k + 1, by go_num, by omega, rfl⟩, by simp [intOf]; omega⟩
        · go_wp2
          exact ⟨⟨i + 1, by go_num, by omega, rfl⟩, by simp [intOf]; omega⟩
    · have hcall := others_none w Y f h.blk.1 h.rest
      go_wp2
      repeat (refine wp_loop_rounds 1 ?_; rw [rounds_succ]; go_wp2_with (go_at_call 82; (with_reducible refine hcall.mono ?_); rintro e w1 ⟨rfl, rfl⟩))
      go_ret
      exact ⟨rfl, rfl⟩

/-- A list that lies alone in its block of role 9 + i; done: it holds its mark; else its first k elements do. -/
def MarkSt (w : World) (base : Nat) (ρ : Nat → Nat) (V : List Value) (d k : Nat) : Prop :=
  ∀ (i : Nat) (v : Value), V[i]? = some v → ∃ n c, n ≤ 100 ∧ Lst w base ρ (9 + i) 3 v n c ∧ (i < d → ∀ j, j < n → c j = mkv i) ∧ (i = d → ∀ j, j < k → c j = mkv i)
theorem MarkSt.next {w : World} {base d k n : Nat} {ρ : Nat → Nat} {V : List Value} {A : Option Addr} {cap : Nat} (h : MarkSt w base ρ V d k) (hv : V[d]? = some (.slice A n cap)) (hk : n ≤ k) : MarkSt w base ρ V (d + 1) 0 := by
  intro i v hi
  obtain ⟨m, c, h1, h2, h3, h4⟩ := h i v hi
  refine ⟨m, c, h1, h2, fun hd j hj => ?_, fun _ j hj => by omega⟩
  by_cases hid : i = d
  · subst hid
    rw [hv] at hi
    injection hi with hi
    subst hi
    obtain rfl := h2.1.len_eq
    exact h4 rfl j (by omega)
  · exact h3 (by omega) j hj
theorem MarkSt.done {w : World} {base d : Nat} {ρ : Nat → Nat} {V : List Value} (h : MarkSt w base ρ V d 0) (hd : V.length ≤ d) : MarkAll w base ρ V 100 := by
  intro i v hi
  obtain ⟨m, c, h1, h2, h3, _⟩ := h i v hi
  have hlt : i < V.length := by
    rcases Nat.lt_or_ge i V.length with h | h
    · exact h
    · rw [List.getElem?_eq_none h] at hi; cases hi
  exact ⟨m, h1, h2.1.congr (fun k hk => h3 (by omega) k (by omega)), h2.2⟩
theorem MarkSt.put {w : World} {base d k n g cap : Nat} {ρ : Nat → Nat} {V : List Value} (h : MarkSt w base ρ V d k) (hv : V[d]? = some (.slice (some ⟨g, 0, none⟩) n cap)) :
    MarkSt (w.setCell ⟨g, k, none⟩ (mkv d)) base ρ V d (k + 1) ∧ Keeps (fun r => r = 9 + d) w ρ (w.setCell ⟨g, k, none⟩ (mkv d)) ρ := by
  obtain ⟨m, c, h1, h2, h3, h4⟩ := h d _ hv
  obtain rfl := h2.1.len_eq
  obtain ⟨hp, o, ho⟩ := h2.1.put (k := k) (mkv d)
  have hK : Keeps (fun r => r = 9 + d) w ρ (w.setCell ⟨g, k, none⟩ (mkv d)) ρ := Keeps.only ρ ho (h2.2 g rfl)
  refine ⟨fun i v hi => ?_, hK⟩
  by_cases hid : i = d
  · subst hid
    rw [hv] at hi
    injection hi with hi
    subst hi
    refine ⟨_, _, h1, ⟨hp, h2.2⟩, fun hd => by omega, fun _ j hj => ?_⟩
    by_cases hjk : j = k
    · rw [hjk, setc_eq]
    · rw [setc_ne hjk]
      exact h4 rfl j (by omega)
  · obtain ⟨m', c', k1, k2, k3, k4⟩ := h i v hi
    exact ⟨m', c', k1, k2.keep hK (by omega), k3, fun hd => by omega⟩

def MRel (w : World) (base : Nat) (ρ : Nat → Nat) (Y : Nat) (f : Nat → Value) (V : List Value) (iv : Value) (wr : World) : Prop :=
  ∃ i : Nat, iv = .int .i64 i ∧ i ≤ V.length ∧ MarkSt wr base ρ V i 0 ∧ SprI wr base ρ 5 6 Y f V ∧ Below base w wr ∧ wr.heap.size = w.heap.size
def MRel2 (w : World) (base : Nat) (ρ : Nat → Nat) (Y : Nat) (f : Nat → Value) (V : List Value) (i n : Nat) (kv : Value) (wr : World) : Prop :=
  ∃ k : Nat, kv = .int .i64 k ∧ k ≤ n ∧ MarkSt wr base ρ V i k ∧ SprI wr base ρ 5 6 Y f V ∧ Below base w wr ∧ wr.heap.size = w.heap.size
set_option maxRecDepth 100000 in
set_option maxHeartbeats 1000000 in
theorem mark_ints (w : World) (Y base : Nat) (ρ : Nat → Nat) (f : Nat → Value) (V : List Value) (h : SprI w base ρ 5 6 Y f V) (hm : MarkSt w base ρ V 0 0) :
    Calls Try.prog 44 #[.pointer (some ⟨Y, 0, none⟩)] w fun e w' => e = .returned (.tuple #[]) ∧ MarkAll w' base ρ V 100 ∧ SprI w' base ρ 5 6 Y f V ∧ Below base w w' ∧ w'.heap.size = w.heap.size := by
  obtain ⟨N, hN⟩ : ∃ N, V.length = N := ⟨_, rfl⟩
  have hsm := h.small
  rw [hN] at hsm
  go_enter Try.func44, Try.ntmps44
  go_wp2
  go_loopw [2] (fun iv wr => MRel w base ρ Y f V iv wr) (fun iv _ => (N - intOf iv).toNat)
  case atStart => exact ⟨0, rfl, by omega, hm, h, Below.refl _ _, rfl⟩
  case round =>
    clear h hm
    obtain ⟨i, rfl, hi, hm, h, hb, hs⟩ := hrel
    rw [hN] at hi
    have c0 := obj_cell h.blk.1 0 (by omega)
    obtain ⟨A0, cap0, e0⟩ := h.row.1.len
    have hrow := h.row.1
    rw [e0] at c0 hrow
    rw [hN] at c0 hrow
    by_cases hiN : i < N
    · obtain ⟨v, hv⟩ : ∃ p, V[i]? = some p := ⟨V[i]'(by omega), List.getElem?_eq_getElem _⟩
      obtain ⟨g0, rfl, x0⟩ := hrow.get hiN
      rw [lst_at hv] at x0
      obtain ⟨n, c, hn, ho, _⟩ := hm i v hv
      obtain ⟨A, cp, rfl⟩ := ho.1.len
      clear hrow
      go_wp2
      go_loopw [3] (fun kv wr => MRel2 w base ρ Y f V i n kv wr) (fun kv _ => (n - intOf kv).toNat)
      case atStart => exact ⟨0, rfl, by omega, hm, h, hb, hs⟩
      case round =>
        clear c0 x0 hm h hb hs ho
        obtain ⟨k, rfl, hk, hm, h, hb, hs⟩ := hrel
        have c0 := obj_cell h.blk.1 0 (by omega)
        have hrow := h.row.1
        rw [e0] at c0 hrow
        rw [hN] at c0 hrow
        obtain ⟨g1, e1, x0⟩ := hrow.get hiN
        injection e1 with e1
        injection e1 with e1
        subst e1
        rw [lst_at hv] at x0
        clear hrow
        by_cases hkn : k < n
        · obtain ⟨n', c', _, ho, _⟩ := hm i _ hv
          obtain rfl := ho.1.len_eq
          obtain ⟨g, rfl, hc⟩ := ho.1.get hkn
          have hfr := ho.1.free k
          obtain ⟨hp, hK⟩ := hm.put hv
          have hS := h.keep hK (by omega) (by omega)
          have hbg := (ho.1.block rfl).1
          obtain ⟨_, o, hO⟩ := ho.1.put (k := k) (mkv i)
          have hB := Lib.hid (hb.trans (hO.below hbg))
          have hsz := Lib.hid (hO.size.trans hs)
          have HP := Lib.hid hp
          have HS := Lib.hid hS
          clear hp hS hO hK ho hm h hb hs
          unfold mkv at HP HS hB hsz
          go_wp2
          exact ⟨⟨k + 1, by go_num, by omega, HP.out, HS.out, hB.out, hsz.out⟩, by simp [intOf]; omega⟩
        · have hnx := hm.next hv (by omega)
          go_wp2
          exact ⟨⟨i + 1, by go_num, by omega, hnx, h, hb, hs⟩, by simp [intOf]; omega⟩
    · have hd := hm.done (by omega)
      have c1 := obj_cell h.blk.1 1 (by omega)
      have c2 := obj_cell h.blk.1 2 (by omega)
      have c3 := obj_cell h.blk.1 3 (by omega)
      have c4 := obj_cell h.blk.1 4 (by omega)
      have c5 := obj_cell h.blk.1 5 (by omega)
      have c6 := obj_cell h.blk.1 6 (by omega)
      have c7 := obj_cell h.blk.1 7 (by omega)
      rw [h.rest 1 (by omega) (by omega)] at c1
      rw [h.rest 2 (by omega) (by omega)] at c2
      rw [h.rest 3 (by omega) (by omega)] at c3
      rw [h.rest 4 (by omega) (by omega)] at c4
      rw [h.rest 5 (by omega) (by omega)] at c5
      rw [h.rest 6 (by omega) (by omega)] at c6
      rw [h.rest 7 (by omega) (by omega)] at c7
      go_wp2
      repeat (refine wp_loop_rounds 1 ?_; rw [rounds_succ]; go_wp2)
      go_end0
      exact ⟨rfl, hd, h, hb, hs⟩
end Go.Proofs.Ytbgojhjlmlbfpaa
