/- code.Sum: the walk. -/
import Derived.Test.YthkifgjmhpppkaaDoorTxT
import Derived.Laws.BitsAllLaws
namespace Go.Proofs.YthkifgjmhpppkaaDoor
open Go.RowKit

def stepN (m : Nat) : Nat := (m / 2) ^^^ (if m % 2 = 1 then 3988292384 else 0)
def tabN (i : Nat) : Nat := stepN (stepN (stepN (stepN i)))
theorem xor32 {a b : Nat} (ha : a < 4294967296) (hb : b < 4294967296) : a ^^^ b < 4294967296 := Nat.xor_lt_two_pow (n := 32) ha hb
theorem step_lt (m : Nat) (h : m < 4294967296) : stepN m < 4294967296 := by
  unfold stepN
  refine xor32 (by omega) ?_
  split <;> decide
theorem tab_lt (i : Nat) (h : i < 4294967296) : tabN i < 4294967296 := step_lt _ (step_lt _ (step_lt _ (step_lt _ h)))
theorem step_bits (m : Nat) (h : m < 4294967296) : bits .xor .u32 ((m : Int) / 2) (bits .and .u32 (-bits .and .u32 (m : Int) 1 % 4294967296) 3988292384) = ((stepN m : Nat) : Int) := by
  have e1 : bits .and .u32 (m : Int) 1 = ((m % 2 : Nat) : Int) := by
    have := u32_and_nat m 1 h (by decide)
    rw [nat_mask1] at this
    exact this
  have e2 : (m : Int) / 2 = ((m / 2 : Nat) : Int) := by omega
  rw [e1, e2]
  unfold stepN
  rcases Nat.mod_two_eq_zero_or_one m with h0 | h1
  · rw [h0, if_neg (by decide)]
    have e3 : (-((0 : Nat) : Int) % 4294967296) = ((0 : Nat) : Int) := by decide
    rw [e3]
    have e4 := u32_and_nat 0 3988292384 (by decide) (by decide)
    have e5 : (0 : Nat) &&& 3988292384 = 0 := by decide
    rw [e5] at e4
    have e6 : ((3988292384 : Nat) : Int) = 3988292384 := rfl
    rw [e6] at e4
    rw [e4]
    exact u32_xor_nat (m / 2) 0 (by omega) (by decide)
  · rw [h1, if_pos rfl]
    have e3 : (-((1 : Nat) : Int) % 4294967296) = ((4294967295 : Nat) : Int) := by decide
    rw [e3]
    have e4 := u32_and_nat 4294967295 3988292384 (by decide) (by decide)
    have e5 : (4294967295 : Nat) &&& 3988292384 = 3988292384 := by decide
    rw [e5] at e4
    have e6 : ((3988292384 : Nat) : Int) = 3988292384 := rfl
    rw [e6] at e4
    rw [e4]
    exact u32_xor_nat (m / 2) 3988292384 (by omega) (by decide)
def tabCells (i : Nat) : Array Value := ((List.range 16).map fun j => Value.int .u32 ((if j < i then tabN j else 0 : Nat) : Int)).toArray
theorem tabCells_get (i j : Nat) (h : j < 16) : (tabCells i)[j]? = some (.int .u32 ((if j < i then tabN j else 0 : Nat) : Int)) := by
  unfold tabCells
  rw [List.getElem?_toArray, List.getElem?_map, List.getElem?_range h]
  rfl
theorem tabCells_set (i : Nat) (h : i < 16) : (tabCells i).setIfInBounds i (.int .u32 ((tabN i : Nat) : Int)) = tabCells (i + 1) := by
  apply Array.ext_getElem?
  intro j
  rw [Array.getElem?_setIfInBounds]
  by_cases hj : j < 16
  · rw [tabCells_get (i + 1) j hj]
    by_cases he : i = j
    · subst he
      rw [if_pos rfl, if_pos (by show i < ((List.range 16).map _).toArray.size; simpa using h), if_pos (by omega)]
    · rw [if_neg he, tabCells_get i j hj]
      congr 4
      rw [eq_iff_iff]
      omega
  · have hn : ∀ i, (tabCells i)[j]? = none := fun i => by
      refine Array.getElem?_eq_none ?_
      show ((List.range 16).map _).toArray.size ≤ j
      simp
      omega
    rw [hn, hn]
    split
    · split
      · rename_i h1 h2
        omega
      · rfl
    · rfl
theorem blk_cell {w : World} {g : Nat} {cs : Array Value} {t : TypeId} (h : w.heap[g]? = some (.cells cs t (0, 0))) (i : Nat) : w.cell? ⟨g, i, none⟩ = cs[i]? := cell_of_row w g i cs t (0, 0) h
theorem blk_free {w : World} {g : Nat} {cs : Array Value} {t : TypeId} (h : w.heap[g]? = some (.cells cs t (0, 0))) (i : Nat) : w.frozen? ⟨g, i, none⟩ = false := by
  simp [World.frozen?, h]
theorem blk_set {w : World} {g : Nat} {cs : Array Value} {t : TypeId} (h : w.heap[g]? = some (.cells cs t (0, 0))) (i : Nat) (u : Value) : (w.setCell ⟨g, i, none⟩ u).heap[g]? = some (.cells (cs.setIfInBounds i u) t (0, 0)) := by
  simp [World.setCell, Array.getElem?_modify, h]
/-- The check sum. -/
def oneB (n c : Nat) : Nat := (((n ^^^ c) / 16 ^^^ tabN ((n ^^^ c) % 16)) / 16) ^^^ tabN (((n ^^^ c) / 16 ^^^ tabN ((n ^^^ c) % 16)) % 16)
def regN (l : List Int) (n : Nat) : Nat := l.foldl (fun n z => oneB n z.toNat) n
def sumN (l : List Int) : Nat := 4294967295 ^^^ regN l 4294967295
theorem oneB_lt (n c : Nat) (hn : n < 4294967296) (hc : c < 256) : oneB n c < 4294967296 := by
  have h1 : n ^^^ c < 4294967296 := xor32 hn (by omega)
  unfold oneB
  have h2 : (n ^^^ c) / 16 ^^^ tabN ((n ^^^ c) % 16) < 4294967296 := xor32 (by omega) (tab_lt _ (by omega))
  exact xor32 (by omega) (tab_lt _ (by omega))
theorem ret_int {k : IntKind} {a b : Int} (h : a = b) : Ending.returned (.int k a) = .returned (.int k b) := by rw [h]
theorem max_xor (n : Nat) (h : n < 4294967296) : bits .xor .u32 IntKind.u32.max (n : Int) = ((4294967295 ^^^ n : Nat) : Int) := by
  have e : IntKind.u32.max = ((4294967295 : Nat) : Int) := by decide
  rw [e]
  exact u32_xor_nat 4294967295 n (by decide) h
def SumRel (b : Nat) (w : World) (v9 : Value) (wr : World) : Prop := ∃ i : Nat, v9 = .int .i64 i ∧ i ≤ 16 ∧ Below b w wr ∧ wr.heap[b]? = some (.cells (tabCells i) 103 (0, 0))
def stepK : Nat → Nat → Nat
  | 0, m => m
  | k + 1, m => stepN (stepK k m)
def NRel (i : Nat) (v5 v14 : Value) : Prop := ∃ k : Nat, v14 = .int .i64 k ∧ v5 = .int .u32 (stepK k i : Nat) ∧ k ≤ 4
theorem stepK_lt (i : Nat) (h : i < 4294967296) : ∀ k, stepK k i < 4294967296
  | 0 => h
  | k + 1 => step_lt _ (stepK_lt i h k)
def RegRel (xs : List Int) (v6 v30 : Value) : Prop := ∃ k : Nat, v30 = .int .i64 k ∧ v6 = .int .u32 (regN (xs.take k) 4294967295 : Nat) ∧ k ≤ xs.length ∧ regN (xs.take k) 4294967295 < 4294967296
set_option maxRecDepth 100000 in
set_option maxHeartbeats 1000000 in
theorem sum_any (A : Option Addr) (c : Nat) (xs : List Int) (w : World) (hx : RI .u8 w A xs) (hwf : ∀ z ∈ xs, 0 ≤ z ∧ z < 256) (hn2 : xs.length ≤ 1048576) : Calls Tryd.prog 45 #[.slice A xs.length c] w fun e w' => e = .returned (.int .u32 (sumN xs : Nat)) ∧ Below w.heap.size w w' := by
  have HWF := Lib.hid hwf
  clear hwf
  go_enter Tryd.func45, Tryd.ntmps45
  go_wp2
  go_loopw [9] (fun v9 wr => SumRel w.heap.size w v9 wr) (fun v9 _ => (16 - intOf v9).toNat)
  case atStart => exact ⟨0, rfl, by omega, (Below.refl _ _).alloc (Nat.le_refl _) _, heap_alloc_new w _⟩
  case round =>
    obtain ⟨i, rfl, hi, hb, hblk⟩ := hrel
    by_cases hlt : i < 16
    · have q1 : (i : Int) < 16 := by omega
      have q2 : (0 : Int) ≤ (i : Int) := by omega
      have hcell : wr.cell? ⟨w.heap.size, i, none⟩ = some (.int .u32 0) := by
        rw [blk_cell hblk, tabCells_get i i hlt, if_neg (by omega)]
        rfl
      have hfree := blk_free hblk i
      have HBLK := Lib.hid hblk
      clear hblk
      go_wp2
      go_loop [5, 14] (fun v5 v14 => NRel i v5 v14) (fun _ v14 => (4 - intOf v14).toNat)
      case atStart => exact ⟨0, rfl, rfl, by omega⟩
      case round =>
        obtain ⟨k, rfl, rfl, hk⟩ := hrel
        have hm := stepK_lt i (by omega) k
        by_cases hk4 : k < 4
        · have q3 : (k : Int) < 4 := by omega
          have q4 : (0 : Int) ≤ (k : Int) := by omega
          have HS := Lib.hid (show ((stepN (stepK k i) : Nat) : Int) = (stepK (k + 1) i : Nat) from rfl)
          have HB := Lib.hid (step_bits (stepK k i) hm)
          generalize stepK k i = m at hm HS HB ⊢
          have q5 : (0 : Int) ≤ (m : Int) := by omega
          have q6 : (m : Int) < 4294967296 := by omega
          go_wp2
          go_round
          case rel => exact ⟨k + 1, by go_num, by rw [HB.out, HS.out], by omega⟩
          case measure => simp [intOf]; omega
        · have q3 : ¬ (k : Int) < 4 := by omega
          have hk5 : k = 4 := by omega
          have HT := Lib.hid (show stepK k i = tabN i from by rw [hk5]; rfl)
          clear hk5
          generalize stepK k i = m at hm HT ⊢
          go_wp2
          go_roundw
          case rel => exact ⟨i + 1, by go_num, by omega, hb.setCell (p := ⟨w.heap.size, i, none⟩) (Nat.le_refl _) _, by rw [← tabCells_set i hlt, ← HT.out]; exact blk_set HBLK.out i _⟩
          case measure => simp [intOf]; omega
    · have q1 : ¬ (i : Int) < 16 := by omega
      have hi2 : i = 16 := by omega
      subst hi2
      have hxr : RI .u8 wr A xs := hx.below hb
      have HBLK := Lib.hid hblk
      clear hblk
      go_wp2
      go_loop [6, 30] (fun v6 v30 => RegRel xs v6 v30) (fun _ v30 => (xs.length - intOf v30).toNat)
      case atStart => exact ⟨0, rfl, rfl, by omega, by rw [List.take_zero]; exact (by decide : (4294967295 : Nat) < 4294967296)⟩
      case round =>
        obtain ⟨k, rfl, rfl, hk, hreg⟩ := hrel
        by_cases hkl : k < xs.length
        · obtain ⟨ad, rfl, hc⟩ := hxr.cell_at hkl
          have hz := HWF.out _ (List.getElem_mem hkl)
          obtain ⟨ch, hch⟩ : ∃ ch : Nat, xs[k] = (ch : Int) := ⟨xs[k].toNat, by omega⟩
          have hch2 : ch < 256 := by omega
          have HN : Hid (regN (xs.take (k + 1)) 4294967295 = oneB (regN (xs.take k) 4294967295) ch) := by
            refine Lib.hid ?_
            rw [List.take_succ_eq_append_getElem hkl]
            unfold regN
            rw [List.foldl_append, hch]
            rfl
          rw [hch] at hc
          generalize regN (xs.take k) 4294967295 = n at hreg HN ⊢
          have hlt1 := oneB_lt n ch hreg hch2
          have e1 : bits .xor .u32 (n : Int) (ch : Int) = ((n ^^^ ch : Nat) : Int) := u32_xor_nat n ch hreg (by omega)
          obtain ⟨a, ha⟩ : ∃ a, n ^^^ ch = a := ⟨_, rfl⟩
          have ha2 : a < 4294967296 := by rw [← ha]; exact xor32 hreg (by omega)
          rw [ha] at e1
          have e2 : bits .and .u32 (a : Int) 15 = ((a % 16 : Nat) : Int) := by
            have := u32_and_nat a 15 ha2 (by decide)
            rw [nat_mask4] at this
            exact this
          have c1 : wr.cell? ⟨w.heap.size, a % 16, none⟩ = some (.int .u32 (tabN (a % 16) : Nat)) := by
            rw [blk_cell HBLK.out, tabCells_get 16 (a % 16) (by omega), if_pos (by omega)]
          have e3 : bits .xor .u32 ((a : Int) / 16) ((tabN (a % 16) : Nat) : Int) = ((a / 16 ^^^ tabN (a % 16) : Nat) : Int) := u32_xor_nat (a / 16) (tabN (a % 16)) (by omega) (tab_lt _ (by omega))
          have hb2 : a / 16 ^^^ tabN (a % 16) < 4294967296 := xor32 (by omega) (tab_lt _ (by omega))
          obtain ⟨b, hb1⟩ : ∃ b, a / 16 ^^^ tabN (a % 16) = b := ⟨_, rfl⟩
          rw [hb1] at e3 hb2
          have e4 : bits .and .u32 (b : Int) 15 = ((b % 16 : Nat) : Int) := by
            have := u32_and_nat b 15 hb2 (by decide)
            rw [nat_mask4] at this
            exact this
          have c2 : wr.cell? ⟨w.heap.size, b % 16, none⟩ = some (.int .u32 (tabN (b % 16) : Nat)) := by
            rw [blk_cell HBLK.out, tabCells_get 16 (b % 16) (by omega), if_pos (by omega)]
          have e5 : bits .xor .u32 ((b : Int) / 16) ((tabN (b % 16) : Nat) : Int) = ((b / 16 ^^^ tabN (b % 16) : Nat) : Int) := u32_xor_nat (b / 16) (tabN (b % 16)) (by omega) (tab_lt _ (by omega))
          have HO : Hid (oneB n ch = b / 16 ^^^ tabN (b % 16)) := Lib.hid (by unfold oneB; rw [ha, hb1])
          have q1 : (k : Int) < (xs.length : Int) := by omega
          have q2 : (0 : Int) ≤ (k : Int) := by omega
          have r1 : (0 : Int) ≤ (a : Int) := by omega
          have r2 : (a : Int) < 4294967296 := by omega
          have r3 : (0 : Int) ≤ (b : Int) := by omega
          have r4 : (b : Int) < 4294967296 := by omega
          have r5 : ((a % 16 : Nat) : Int) < 16 := by omega
          have r6 : ((b % 16 : Nat) : Int) < 16 := by omega
          have s1 : (0 : Int) ≤ (ch : Int) := by omega
          have s2 : (ch : Int) < 256 := by omega
          have t1 : a % 16 < 16 := by omega
          have t2 : b % 16 < 16 := by omega
          clear ha hb1 hz hch
          go_wp2
          go_round
          case rel => exact ⟨k + 1, by go_num, by rw [HN.out, HO.out], by omega, by rw [HN.out]; exact hlt1⟩
          case measure => simp [intOf]; omega
        · have q1 : ¬ (k : Int) < (xs.length : Int) := by omega
          have hkx : k = xs.length := by omega
          have HR := Lib.hid (show regN (xs.take k) 4294967295 = regN xs 4294967295 from by rw [hkx, List.take_length])
          clear hkx
          generalize regN (xs.take k) 4294967295 = n at hreg HR ⊢
          have q5 : (0 : Int) ≤ (n : Int) := by omega
          have q6 : (n : Int) < 4294967296 := by omega
          have HL := Lib.hid hreg
          clear hreg q5 q6
          go_wp2
          go_ret
          refine ⟨?_, hb⟩
          have e : sumN xs = 4294967295 ^^^ n := by unfold sumN; rw [← HR.out]
          rw [e]
          exact ret_int (max_xor n HL.out)
end Go.Proofs.YthkifgjmhpppkaaDoor
