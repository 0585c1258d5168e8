/- PlaneCopies (tallylaw3): what the lists keep (reckoned for every shard, nodes, copies), and the walk. -/
import Derived.Test.YtbgojhjlmlbfpaaPlF
namespace Go.Proofs.Ytbgojhjlmlbfpaa
open Go.RowKit Fl

/-- Is node j among the first i of the list? -/
def inL (L : List Int) (i j : Nat) : Bool := (L.take i).contains (j : Int)
/-- All that the law asks of one list. -/
def goodL (s n c : Nat) : Bool :=
  let L := copiesL s n c
  ((List.range c).all fun i => decide (0 ≤ L.getD i 0) && decide (L.getD i 0 < n) && !inL L i (L.getD i 0).toNat) &&
  ((List.range (c - 1)).all fun i => decide (dist s (L.getD i 0) < dist s (L.getD (i + 1) 0)) || (decide (dist s (L.getD i 0) = dist s (L.getD (i + 1) 0)) && decide (L.getD i 0 < L.getD (i + 1) 0))) &&
  ((List.range n).all fun m => inL L c m || decide (dist s (L.getD (c - 1) 0) < dist s m) || (decide (dist s m = dist s (L.getD (c - 1) 0)) && decide (L.getD (c - 1) 0 < (m : Int))))
theorem goodAll : (List.range 8).all (fun s => (List.range 9).all fun n => [1, 3, 5, 7].all fun c => decide (n + 1 < c) || goodL s (n + 1) c) = true := by decide +kernel
theorem good (s n c : Nat) (hn1 : 1 ≤ n) (hn2 : n ≤ 9) (hc1 : 1 ≤ c) (hc2 : c ≤ n) (hc3 : c ≤ 7) (hodd : c % 2 = 1) (hs : s < 8) : goodL s n c = true := by
  have h := goodAll
  simp only [List.all_eq_true, List.mem_range] at h
  have h1 := h s hs (n - 1) (by omega) c (by simp; omega)
  rw [show n - 1 + 1 = n by omega, decide_eq_false (by omega)] at h1
  simpa using h1
theorem good_1 {s n c : Nat} (h : goodL s n c = true) {i : Nat} (hi : i < c) : 0 ≤ (copiesL s n c).getD i 0 ∧ (copiesL s n c).getD i 0 < n ∧ inL (copiesL s n c) i ((copiesL s n c).getD i 0).toNat = false := by
  unfold goodL at h
  simp only [Bool.and_eq_true, List.all_eq_true, List.mem_range] at h
  have h1 := h.1.1 i hi
  simp only [decide_eq_true_eq, Bool.not_eq_true'] at h1
  exact ⟨h1.1.1, h1.1.2, h1.2⟩
theorem good_2 {s n c : Nat} (h : goodL s n c = true) {i : Nat} (hi : i + 1 < c) : dist s ((copiesL s n c).getD i 0) < dist s ((copiesL s n c).getD (i + 1) 0) ∨ (dist s ((copiesL s n c).getD i 0) = dist s ((copiesL s n c).getD (i + 1) 0) ∧ (copiesL s n c).getD i 0 < (copiesL s n c).getD (i + 1) 0) := by
  unfold goodL at h
  simp only [Bool.and_eq_true, List.all_eq_true, List.mem_range] at h
  have h1 := h.1.2 i (by omega)
  simp only [Bool.or_eq_true, Bool.and_eq_true, decide_eq_true_eq] at h1
  exact h1
theorem good_3 {s n c : Nat} (h : goodL s n c = true) {m : Nat} (hm : m < n) : inL (copiesL s n c) c m = true ∨ dist s ((copiesL s n c).getD (c - 1) 0) < dist s m ∨ (dist s m = dist s ((copiesL s n c).getD (c - 1) 0) ∧ (copiesL s n c).getD (c - 1) 0 < (m : Int)) := by
  unfold goodL at h
  simp only [Bool.and_eq_true, List.all_eq_true, List.mem_range] at h
  have h1 := h.2 m hm
  simp only [Bool.or_eq_true, Bool.and_eq_true, decide_eq_true_eq] at h1
  rcases h1 with (h1 | h1) | h1
  · exact .inl h1
  · exact .inr (.inl h1)
  · exact .inr (.inr h1)
theorem inL_succ {L : List Int} {i p : Nat} (hi : i < L.length) (hp : L.getD i 0 = (p : Int)) (j : Nat) : inL L (i + 1) j = (decide (j = p) || inL L i j) := by
  unfold inL
  rw [List.take_succ_eq_append_getElem hi]
  have e : L[i] = (p : Int) := by rw [← hp, List.getD_eq_getElem?_getD, List.getElem?_eq_getElem hi]; rfl
  rw [e]
  by_cases h : j = p
  · subst h; simp
  · rw [decide_eq_false h]
    have : ¬ (j : Int) = (p : Int) := by omega
    simp [this]

/-- A block of bools. -/
def boolObj (t : TypeId) (n : Nat) (f : Nat → Bool) : Obj := .cells ((List.range n).map fun j => Value.bool (f j)).toArray t (0, 0)
theorem bool_cell {w : World} {g t n : Nat} {f : Nat → Bool} (h : w.heap[g]? = some (boolObj t n f)) (j : Nat) (hj : j < n) : w.cell? ⟨g, j, none⟩ = some (.bool (f j)) := by
  rw [cell_of_obj h j]
  simp [hj]
theorem bool_set (t n : Nat) (f f' : Nat → Bool) (j : Nat) (hf : ∀ k, f' k = (decide (k = j) || f k)) : Obj.cells (((List.range n).map fun j => Value.bool (f j)).toArray.setIfInBounds j (.bool true)) t (0, 0) = boolObj t n f' := by
  unfold boolObj
  congr 1
  apply Array.ext_getElem?
  intro k
  rw [Array.getElem?_setIfInBounds]
  simp only [List.size_toArray, List.length_map, List.length_range, List.getElem?_toArray, List.getElem?_map]
  rw [show f' = fun k => (decide (k = j) || f k) from funext hf]
  by_cases hk : j = k
  · subst hk
    rw [if_pos rfl]
    split
    · simp [List.getElem?_range ‹_›]
    · rw [List.getElem?_eq_none (by simp; omega)]; rfl
  · rw [if_neg hk]
    by_cases hkn : k < n
    · rw [List.getElem?_range hkn]
      have : ¬ k = j := fun e => hk e.symm
      simp [this]
    · rw [List.getElem?_eq_none (by simp; omega)]; rfl

set_option maxRecDepth 100000 in
theorem into3_any (n m : Int) (w : World) (hm : 0 < m) (hm2 : m ≤ 100000) :
    Calls Try.prog 12 #[.int .i64 n, .int .i64 m] w fun e w' => e = .returned (.int .i64 (n % m)) ∧ w = w' := by
  obtain ⟨r, hr⟩ : ∃ r, n.tmod m = r := ⟨_, rfl⟩
  have hb : -m < r ∧ r < m ∧ n % m = if r < 0 then r + m else r := by
    have h1 := Int.emod_nonneg n (show m ≠ 0 by omega)
    have h2 := Int.emod_lt_of_pos n hm
    rcases Int.le_total 0 n with h | h
    · rw [Int.tmod_eq_emod_of_nonneg h] at hr; subst hr; rw [if_neg (by omega)]; omega
    · rw [Int.tmod_eq_emod] at hr
      split at hr
      · rename_i hd
        have : n % m = 0 := by
          rcases hd with hd | hd
          · obtain rfl : n = 0 := by omega
            simp
          · exact Int.emod_eq_zero_of_dvd hd
        subst hr
        rw [if_neg (by omega)]; omega
      · have : (m.natAbs : Int) = m := by omega
        subst hr
        rw [if_pos (by omega)]; omega
  obtain ⟨hb1, hb2, hb3⟩ := hb
  have H := Lib.hid hb3
  clear hb3
  have hm0 : (m == 0) = false := beq_eq_false_iff_ne.2 (by omega)
  by_cases h0 : r < 0
  all_goals
    go_enter Try.func12, Try.ntmps12
    go_wp2
    go_ret
  · exact ⟨by rw [H.out, if_pos h0]; rfl, rfl⟩
  · exact ⟨by rw [H.out, if_neg (by omega)]; rfl, rfl⟩

/-- What the walk knows of the list that Copies handed back. -/
structure Listed (w : World) (gg c cap : Nat) (L : List Int) : Prop where
  lt : gg < w.heap.size
  cap_ : c ≤ cap
  cell : ∀ k, k < c → w.cell? ⟨gg, k, none⟩ = some (.int .i64 (L.getD k 0))
theorem Listed.below {w w' : World} {gg c cap : Nat} {L : List Int} (h : Listed w gg c cap L) (hb : Below w.heap.size w w') : Listed w' gg c cap L :=
  ⟨Nat.lt_of_lt_of_le h.lt hb.size, h.cap_, fun k hk => (hb.cell (p := ⟨gg, k, none⟩) h.lt).trans (h.cell k hk)⟩
theorem OwnInts.listed {w w' : World} {v : Value} {L : List Int} (h : OwnInts w w' v L) : ∃ gg cap, v = .slice (some ⟨gg, 0, none⟩) L.length cap ∧ w.heap.size ≤ gg ∧ Listed w' gg L.length cap L := by
  obtain ⟨gg, cap, rfl, h1, h2, h3⟩ := h
  refine ⟨gg, cap, rfl, h1, ?_⟩
  rcases h3.2 with ⟨h, _⟩ | ⟨g, c, cur, k1, k2, k3, k4, _⟩
  · cases h
  · injection k1 with k1 _ k5; injection k1 with k1; injection k1 with k1; subst k1; subst k5
    refine ⟨lt_of_obj k3, k4, fun k hk => ?_⟩
    rw [World.ownsRow.cellAt h3 k (by omega)]
    simp [List.getElem?_eq_getElem hk]

def BelW3 (w w' : World) : Prop := Below w.heap.size w w'
/-- The world in the law's loops: the list stands, the bools are of the first i. -/
structure PC (w wr : World) (gg gb n c cap : Nat) (L : List Int) (i : Nat) : Prop where
  bel : BelW3 w wr
  lst : Listed wr gg c cap L
  blk : wr.heap[gb]? = some (boolObj 4 n (inL L i))
  ne_ : gg ≠ gb
  old : w.heap.size ≤ gb

theorem Try.info_bool : (Try.prog.info? 4).map (fun i => (i.zero, i.size, i.bytes)) = some (some (.bool false), 1, 1) := by kernel_rfl
theorem makes_bools (n : Nat) (L : List Int) (hn : n ≤ 1000) (w : World) : (Instr.makeSlice 72 (.int .i64 (n : Int)) (.int .i64 (n : Int))).run Try.prog w = .ok (.slice (some ⟨w.heap.size, 0, none⟩) n n) (w.alloc (boolObj 4 n (inL L 0))) := by
  obtain ⟨i0, hi, hz0, hz1, hz2⟩ := info_parts Try.info_bool
  rw [run_make w _ _ i0 _ Try.underlying72 hi hz0 .i64 .i64 n n (by omega) (by omega) (by rw [hz2]; omega) (by omega)]
  rw [hz1]
  have : (madeCells (Value.bool false).cells (((n : Int)).toNat * 1)) = ((List.range n).map fun j => Value.bool (inL L 0 j)).toArray := by
    apply Array.ext'
    rw [Int.toNat_natCast, Nat.mul_one]
    show (madeCells #[.bool false] n).toList = _
    rw [toList_madeCells_one]
    have e : (fun j => Value.bool (inL L 0 j)) = fun _ => Value.bool false := by funext j; simp [inL]
    rw [e]
    simp [List.map_const']
  rw [this]
  rfl
def PCRel (w : World) (gg gb n c cap : Nat) (L : List Int) (iv : Value) (wr : World) : Prop := ∃ i : Nat, iv = .int .i64 i ∧ i ≤ c ∧ PC w wr gg gb n c cap L i
def PCRel2 (w : World) (gg gb n c cap : Nat) (L : List Int) (iv : Value) (wr : World) : Prop := ∃ i : Nat, iv = .int .i64 i ∧ i ≤ n ∧ PC w wr gg gb n c cap L c
theorem PC.drewN {w wr : World} {gg gb n c cap i : Nat} {L : List Int} (h : PC w wr gg gb n c cap L i) (k : Nat) : PC w (wr.drewN k) gg gb n c cap L i := ⟨below_drewN h.bel k, ⟨h.lst.lt, h.lst.cap_, h.lst.cell⟩, h.blk, h.ne_, h.old⟩
theorem PC.put {w wr w1 : World} {gg gb n c cap i p : Nat} {L : List Int} (h : PC w wr gg gb n c cap L i) (hi : i < L.length) (hp : L.getD i 0 = (p : Int)) (hg : w.heap.size ≤ gb)
    (hw : w1 = wr.setCell ⟨gb, p, none⟩ (.bool true)) : PC w w1 gg gb n c cap L (i + 1) := by
  have o := OnlyB.set (OnlyB.refl h.blk) (lt_of_obj h.blk) p (.bool true)
  rw [bool_set 4 n _ (inL L (i + 1)) p (fun k => by rw [inL_succ hi hp])] at o
  subst hw
  refine ⟨Below.trans h.bel (o.below hg), ⟨by rw [o.size]; exact h.lst.lt, h.lst.cap_, fun k hk => (o.cell (a := ⟨gg, k, none⟩) h.ne_).trans (h.lst.cell k hk)⟩, o.at_ (lt_of_obj h.blk), h.ne_, h.old⟩

theorem copiesL_take (s n c e : Nat) (he : e ≤ c) : copiesL s n e = (copiesL s n c).take e := by
  unfold copiesL
  rw [List.take_take, Nat.min_eq_left he]
theorem Listed.has {w : World} {gg c cap e s n : Nat} (h : Listed w gg c cap (copiesL s n c)) (he : e ≤ c) (hn : c ≤ n) : HasInts w (.slice (some ⟨gg, 0, none⟩) e cap) (copiesL s n e) := by
  refine ⟨_, cap, by rw [copiesL_length (Nat.le_trans he hn)], fun k hk => ⟨gg, 0, rfl, h.lt, ?_⟩⟩
  rw [copiesL_length (Nat.le_trans he hn)] at hk
  rw [Nat.zero_add, h.cell k (by omega), copiesL_take s n c e he]
  simp [hk]
theorem apart_at (s p : Nat) (w : World) : Calls Try.prog 21 #[.complex .f64 (ff (ptX p)) (ff (ptY p)), .complex .f64 (ff (turnX (ptX (s + 1)) (ptY (s + 1)) 1)) (ff (turnY (ptX (s + 1)) (ptY (s + 1)) 1))] w fun e w' => e = .returned (.int .i64 (dist s (p : Int))) ∧ w = w' := by
  have r3 := at_range s
  unfold atX atY at r3
  have hpt := pt_range p
  exact flipW (apart_any _ _ _ _ _ (by omega) (by omega) (by omega) (by omega) (by omega) (by omega) (by omega) (by omega))

set_option maxRecDepth 100000 in
set_option maxHeartbeats 2000000 in
theorem copies_walk (ks kn kc : Int) (w : World) :
    Calls Try.prog 6 #[.agg #[.int .i64 ks, .int .i64 kn, .int .i64 kc]] w fun e w' => e = .returned (.bool true) ∧ Below w.heap.size w w' := by
  obtain ⟨s, hs⟩ : ∃ s : Nat, ks % 8 = (s : Int) := ⟨(ks % 8).toNat, by omega⟩
  obtain ⟨n', hn'⟩ : ∃ n : Nat, kn % 9 = (n : Int) := ⟨(kn % 9).toNat, by omega⟩
  obtain ⟨hs8, hn9⟩ : s < 8 ∧ n' < 9 := by omega
  obtain ⟨h, hh⟩ : ∃ h : Nat, (((n' : Int) + 1 + 1) / 2) = (h : Int) := ⟨((n' + 2) / 2), by omega⟩
  have hh1 : 1 ≤ h ∧ 2 * h ≤ n' + 2 := by omega
  obtain ⟨q, hq⟩ : ∃ q : Nat, kc % (h : Int) = (q : Int) := ⟨(kc % (h : Int)).toNat, by have := Int.emod_nonneg kc (show (h : Int) ≠ 0 by omega); omega⟩
  have hq1 : q < h := by have := Int.emod_lt_of_pos kc (show (0 : Int) < (h : Int) by omega); omega
  obtain ⟨c, hc, hc1, hc2, hc3, hcodd⟩ : ∃ c : Nat, ((c : Int) = if (7 : Int) < 1 + 2 * (q : Int) then 7 else 1 + 2 * (q : Int)) ∧ 1 ≤ c ∧ c ≤ n' + 1 ∧ c ≤ 7 ∧ c % 2 = 1 := by
    by_cases h7 : 7 < 1 + 2 * q
    · exact ⟨7, by rw [if_pos (by omega)]; rfl, by omega, by omega, by omega, by omega⟩
    · exact ⟨1 + 2 * q, by rw [if_neg (by omega)]; omega, by omega, by omega, by omega, by omega⟩
  obtain ⟨n, hn⟩ : ∃ n : Nat, (1 : Int) + (n' : Int) = (n : Int) := ⟨n' + 1, by omega⟩
  have hh2 : ((n : Int) + 1) / 2 = (h : Int) := by omega
  have hnn : 1 ≤ n ∧ n ≤ 9 ∧ c ≤ n := by omega
  obtain ⟨hn1, hn2, hcn⟩ := hnn
  have hG := good s n c hn1 hn2 hc1 hcn hc3 hcodd hs8
  have hlen := copiesL_length (s := s) hcn
  have r3 := at_range s
  have hpt := pt_range (s + 1)
  have h7 : (7 < 1 + 2 * (q : Int) ∧ c = 7) ∨ (¬ 7 < 1 + 2 * (q : Int) ∧ (1 : Int) + 2 * (q : Int) = (c : Int)) := by
    by_cases h7 : 7 < 1 + 2 * (q : Int)
    · rw [if_pos h7] at hc; left; exact ⟨h7, by omega⟩
    · rw [if_neg h7] at hc; right; exact ⟨h7, by omega⟩
  have hmkb := makes_bools n (copiesL s n c) (by omega)
  clear hc hh
  have hw1 : ∀ i : Nat, i < n → IntKind.i64.wrap ((i : Int) - 1) = (i : Int) - 1 := fun i hi => IntWalk.i64_in _ (by omega)
  rcases h7 with ⟨h71, h72⟩ | ⟨h71, h72⟩
  all_goals
    have H72 := Lib.hid h72
    clear h72
    go_enter Try.func6, Try.ntmps6
    go_wp2_with (go_at_call 12; (with_reducible refine (into3_any _ _ _ (by omega) (by omega)).mono ?_); rintro e w1 ⟨rfl, rfl⟩)
    first | rw [show Value.int IntKind.i64 7 = Value.int IntKind.i64 (c : Int) from by rw [show (c : Int) = 7 by have := H72.out; omega]] | rw [show Value.int IntKind.i64 (1 + 2 * (q : Int)) = Value.int IntKind.i64 (c : Int) from by rw [H72.out]]
    clear H72 h71
    refine (copies_int _ _ _ s n c _ (by omega) (by omega) (by omega) hn1 hn2 hc1 hcn hc3 hcodd hs8).mono ?_
    rintro e w1 ⟨v, rfl, hv⟩
    obtain ⟨gg, cap, rfl, hgg, hl1⟩ := hv.listed
    have hb1 := hv.below
    rw [hlen] at hl1 ⊢
    simp at hgg
    go_wp2_with (first | (go_at_call 24; (with_reducible refine (num_any _ _).mono ?_); rintro e w9 ⟨rfl, rfl⟩) | (go_at_call 16; (with_reducible refine (wakes_any _).mono ?_); rintro e w2 ⟨rfl, hb2⟩))
    go_wp2_with (first | (go_at_call 19; (with_reducible refine (flipW (spiral_at _ (s + 1) _ (by omega) (by omega))).mono ?_); rintro e w9 ⟨rfl, rfl⟩) | (go_at_call 23; (with_reducible refine (flipW (turn_any _ _ _ _ (by omega) (by omega) (by omega) (by omega))).mono ?_); rintro e w9 ⟨rfl, rfl⟩))
    have hPC : PC w (w2.alloc (boolObj 4 n (inL (copiesL s n c) 0))) gg w2.heap.size n c cap (copiesL s n c) 0 := by
      have k1 : Below w.heap.size w w1 := ((Below.refl _ _).alloc (Nat.le_refl _) _).trans (hb1.mono (by simp))
      have k2 : Below w.heap.size w w2 := k1.trans (hb2.mono k1.size)
      have l2 := hl1.below hb2
      refine ⟨k2.alloc k2.size _, l2.below ((Below.refl _ _).alloc (Nat.le_refl _) _), heap_alloc_new w2 _, ?_, k2.size⟩
      have := l2.lt
      omega
    have hgb : w.heap.size ≤ w2.heap.size := hPC.old
    clear hmkb
    go_loopw [10] (fun iv wr => PCRel w gg w2.heap.size n c cap (copiesL s n c) iv wr) (fun iv _ => (c - intOf iv).toNat)
    case atStart => exact ⟨0, rfl, by omega, hPC⟩
    case round =>
      clear hPC
      obtain ⟨i, rfl, hi, hP⟩ := hrel
      obtain ⟨wo, rfl⟩ : ∃ wo : World, wo = wr := ⟨_, rfl⟩
      by_cases hic : i < c
      · obtain ⟨g1, g2, g3⟩ := good_1 hG hic
        obtain ⟨p, hp⟩ := Int.eq_ofNat_of_zero_le g1
        have x1 := hP.lst.cell i hic
        rw [hp] at x1 g2 g3
        rw [Int.toNat_natCast] at g3
        have y1 := bool_cell hP.blk p (by omega)
        rw [g3] at y1
        have f1 := free_of_obj hP.blk p
        have hset := hP.put (by omega) hp hgb rfl
        have x2 := hset.lst.cell i hic
        rw [hp] at x2
        rcases Nat.eq_zero_or_pos i with hi0 | hi0
        · subst hi0
          have HS := Lib.hid hset
          have HP := Lib.hid hp
          clear hset hp g3
          go_wp2_with fail
          exact ⟨⟨1, rfl, by omega, HS.out⟩, by simp [intOf]; omega⟩
        · obtain ⟨j, rfl⟩ : ∃ j, i = j + 1 := ⟨i - 1, by omega⟩
          obtain ⟨g4, g5, _⟩ := good_1 hG (show j < c by omega)
          obtain ⟨p0, hp0⟩ := Int.eq_ofNat_of_zero_le g4
          have x0 := hset.lst.cell j (by omega)
          have g6 := good_2 hG hic
          rw [hp, hp0] at g6
          rw [hp0] at x0 g5
          have HS := Lib.hid hset
          have HP := Lib.hid hp
          clear hset hp g3 hp0 g1 g4 hi0
          go_wp2_with (first | (go_at_call 19; (with_reducible refine (flipW (spiral_at _ _ _ rfl (by omega))).mono ?_); rintro e w9 ⟨rfl, rfl⟩) | (go_at_call 21; (with_reducible refine (apart_at _ _ _).mono ?_); rintro e w9 ⟨rfl, rfl⟩))
          have q1 : IntKind.i64.wrap ((j : Int) + 1 - 1) = (j : Int) := by rw [show (j : Int) + 1 - 1 = (j : Int) by omega]; exact IntWalk.i64_in _ (by omega)
          have q2 : (0 : Int) ≤ (j : Int) := by omega
          have q3 : (j : Int) < (c : Int) := by omega
          have q4 : (0 : Int) ≤ (j : Int) + 1 := by omega
          have q5 : (j : Int) + 1 < (c : Int) := by omega
          rcases g6 with g6 | ⟨g6, g7⟩
          · have e1 : decide (dist s (p : Int) < dist s (p0 : Int)) = false := decide_eq_false (by omega)
            have e2 : (dist s (p0 : Int) == dist s (p : Int)) = false := beq_eq_false_iff_ne.2 (by omega)
            go_quiet (fail)
            go_wp2
            exact ⟨⟨j + 1 + 1, by go_num, by omega, HS.out.drewN _⟩, by simp [intOf]; omega⟩
          · have e1 : decide (dist s (p : Int) < dist s (p0 : Int)) = false := decide_eq_false (by omega)
            have e2 : (dist s (p0 : Int) == dist s (p : Int)) = true := beq_iff_eq.2 g6
            have e3 : decide ((p : Int) < (p0 : Int)) = false := decide_eq_false (by omega)
            go_quiet (fail)
            go_wp2
            exact ⟨⟨j + 1 + 1, by go_num, by omega, HS.out.drewN _⟩, by simp [intOf]; omega⟩
      · obtain rfl : i = c := by omega
        obtain ⟨d, hd, hdc⟩ : ∃ d : Nat, (i : Int) - 1 = (d : Int) ∧ d = i - 1 := ⟨i - 1, by omega, rfl⟩
        obtain ⟨g1, g2, _⟩ := good_1 hG (show d < i by omega)
        obtain ⟨p, hp⟩ := Int.eq_ofNat_of_zero_le g1
        have x1 := hP.lst.cell d (by omega)
        have g3 := fun (m : Nat) (hm : m < n) => good_3 hG hm
        rw [← hdc] at g3
        rw [hp] at x1 g2 g3
        have HP := Lib.hid hp
        have HD := Lib.hid hdc
        clear hp hdc g1 hl1 hb1 hb2
        go_wp2_with (first | (go_at_call 19; (with_reducible refine (flipW (spiral_at _ _ _ rfl (by omega))).mono ?_); rintro e w9 ⟨rfl, rfl⟩) | (go_at_call 21; (with_reducible refine (apart_at _ _ _).mono ?_); rintro e w9 ⟨rfl, rfl⟩))
        go_loopw [14] (fun iv wr => ∃ m : Nat, iv = .int .i64 m ∧ m ≤ n ∧ wr = wo) (fun iv _ => (n - intOf iv).toNat)
        case atStart => exact ⟨0, rfl, by omega, rfl⟩
        case round =>
          obtain ⟨m, rfl, hm, rfl⟩ := hrel
          by_cases hmn : m < n
          · have y1 := bool_cell hP.blk m hmn
            have g4 := g3 m hmn
            have hN : ∀ x : Int, x = m → (m : Int) = x := fun x h => h.symm
            cases hin : inL (copiesL s n i) i m
            · rw [hin] at y1 g4
              rcases g4 with g4 | g4 | ⟨g4, g5⟩
              · cases g4
              · have e1 : decide (dist s (m : Int) < dist s (p : Int)) = false := decide_eq_false (by omega)
                have e2 : (dist s (m : Int) == dist s (p : Int)) = false := beq_eq_false_iff_ne.2 (by omega)
                clear g3 hP hG
                go_wp2_with (first | (go_at_call 19; (with_reducible refine (flipW (spiral_at _ _ _ rfl (by omega))).mono ?_); rintro e w9 ⟨rfl, rfl⟩) | (go_at_call 21; (with_reducible refine (apart_at _ _ _).mono ?_); rintro e w9 ⟨rfl, rfl⟩))
                exact ⟨⟨m + 1, by go_num, by omega, trivial⟩, by simp [intOf]; omega⟩
              · have e1 : decide (dist s (m : Int) < dist s (p : Int)) = false := decide_eq_false (by omega)
                have e2 : (dist s (m : Int) == dist s (p : Int)) = true := beq_iff_eq.2 g4
                have e3 : decide ((m : Int) < (p : Int)) = false := decide_eq_false (by omega)
                clear g3 hP hG g4
                go_wp2_with (first | (go_at_call 19; (with_reducible refine (flipW (spiral_at _ _ _ rfl (by omega))).mono ?_); rintro e w9 ⟨rfl, rfl⟩) | (go_at_call 21; (with_reducible refine (apart_at _ _ _).mono ?_); rintro e w9 ⟨rfl, rfl⟩))
                exact ⟨⟨m + 1, by go_num, by omega, trivial⟩, by simp [intOf]; omega⟩
            · rw [hin] at y1
              clear g3 g4 hP hG
              go_wp2_with (first | (go_at_call 19; (with_reducible refine (flipW (spiral_at _ _ _ rfl (by omega))).mono ?_); rintro e w9 ⟨rfl, rfl⟩) | (go_at_call 21; (with_reducible refine (apart_at _ _ _).mono ?_); rintro e w9 ⟨rfl, rfl⟩))
              exact ⟨⟨m + 1, by go_num, by omega, trivial⟩, by simp [intOf]; omega⟩
          · clear g3 hG
            by_cases hi3 : i < 3
            · go_wp2
              go_ret
              exact ⟨rfl, hP.bel⟩
            · obtain ⟨e, he, hec⟩ : ∃ e : Nat, (i : Int) - 2 = (e : Int) ∧ e = i - 2 := ⟨i - 2, by omega, rfl⟩
              have hei : e ≤ i ∧ 1 ≤ e ∧ e % 2 = 1 ∧ e ≤ 7 := by omega
              obtain ⟨he1, he2, he3, he4⟩ := hei
              have HL := hP.lst.has he1 hcn
              have hcap := hP.lst.cap_
              have hcap2 : e ≤ cap := by omega
              have hcap3 : (e : Int) ≤ (cap : Int) := by omega
              have hcap4 : (0 : Int) ≤ (e : Int) := by omega
              clear hec HD
              go_wp2_with fail
              refine (copies_int _ _ _ s n e _ (by omega) (by omega) (by omega) hn1 hn2 he2 (by omega) (by omega) he3 hs8).mono ?_
              rintro e6 w6 ⟨v, rfl, hv⟩
              go_wp2_with (first | (go_at_call 24; (with_reducible refine (num_any _ _).mono ?_); rintro e w9 ⟨rfl, rfl⟩))
              refine (eqInts_same v _ (copiesL s n e) _ hv.has (HL.below hv.below) (by rw [copiesL_length (by omega)]; omega)).mono ?_
              rintro e7 w7 ⟨rfl, m7, rfl⟩
              go_wp2
              go_ret
              exact ⟨rfl, below_drewN (Below.trans hP.bel (hv.below.mono (Below.size hP.bel))) _⟩
end Go.Proofs.Ytbgojhjlmlbfpaa
