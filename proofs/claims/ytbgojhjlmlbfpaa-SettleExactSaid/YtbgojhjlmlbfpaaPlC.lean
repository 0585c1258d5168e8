/- plane.Copies: the nodes that keep a shard, as a list reckoned in plain Lean; its contract. -/
import Derived.Test.YtbgojhjlmlbfpaaPlB
namespace Go.Proofs.Ytbgojhjlmlbfpaa
open Go.RowKit Fl

/-- The first points of the spiral. -/
def ptX (k : Nat) : Int := [0, 1, 1, 0, -1, -1, -1, 0, 1].getD k 0
def ptY (k : Nat) : Int := [0, 0, 1, 1, 1, 0, -1, -1, -1].getD k 0
theorem pt_on (k : Nat) (hk : k ≤ 8) : Spi.On k (ptX k) (ptY k) := by
  have hc : k = 0 ∨ k = 1 ∨ k = 2 ∨ k = 3 ∨ k = 4 ∨ k = 5 ∨ k = 6 ∨ k = 7 ∨ k = 8 := by omega
  rcases hc with rfl | rfl | rfl | rfl | rfl | rfl | rfl | rfl | rfl
  · exact ⟨0, 0, by omega, by omega, .inl (by decide)⟩
  · exact ⟨0, 0, by omega, by omega, .inr (.inl (by decide))⟩
  · exact ⟨0, 0, by omega, by omega, .inr (.inr (.inl (by decide)))⟩
  · exact ⟨0, 1, by omega, by omega, .inr (.inr (.inl (by decide)))⟩
  · exact ⟨0, 0, by omega, by omega, .inr (.inr (.inr (by decide)))⟩
  · exact ⟨0, 1, by omega, by omega, .inr (.inr (.inr (by decide)))⟩
  · exact ⟨1, 0, by omega, by omega, .inl (by decide)⟩
  · exact ⟨1, 1, by omega, by omega, .inl (by decide)⟩
  · exact ⟨1, 2, by omega, by omega, .inl (by decide)⟩
theorem spiral_small (k : Nat) (w : World) (hk : k ≤ 8) :
    Calls Try.prog 19 #[.int .i64 k] w fun e w' => e = .returned (.complex .f64 (ff (ptX k)) (ff (ptY k))) ∧ w' = w :=
  (spiral_any k w (by omega) (by omega)).mono fun e w' ⟨⟨x, y, he, hon⟩, hw⟩ => by
    obtain ⟨rfl, rfl⟩ := hon.unique (pt_on k hk)
    exact ⟨he, hw⟩
theorem spiral_at (z : Int) (k : Nat) (w : World) (e : z = k) (hk : k ≤ 8) :
    Calls Try.prog 19 #[.int .i64 z] w fun e w' => e = .returned (.complex .f64 (ff (ptX k)) (ff (ptY k))) ∧ w' = w := by
  subst e; exact spiral_small k w hk
theorem pt_range (k : Nat) : -1 ≤ ptX k ∧ ptX k ≤ 1 ∧ -1 ≤ ptY k ∧ ptY k ≤ 1 := by
  rcases Nat.lt_or_ge k 9 with h | h
  · have : ∀ k : Fin 9, -1 ≤ ptX k ∧ ptX k ≤ 1 ∧ -1 ≤ ptY k ∧ ptY k ≤ 1 := by decide
    exact this ⟨k, h⟩
  · unfold ptX ptY
    rw [List.getD_eq_getElem?_getD, List.getElem?_eq_none (by simp; omega), List.getD_eq_getElem?_getD, List.getElem?_eq_none (by simp; omega)]
    simp

/-- Where a shard stands; how far (squared) a node is from it. -/
def atX (s : Nat) : Int := turnX (ptX (s + 1)) (ptY (s + 1)) 1
def atY (s : Nat) : Int := turnY (ptX (s + 1)) (ptY (s + 1)) 1
def dist (s : Nat) (a : Int) : Int := apartZ (ptX a.toNat) (ptY a.toNat) (atX s) (atY s)
theorem at_range (s : Nat) : -1 ≤ atX s ∧ atX s ≤ 1 ∧ -1 ≤ atY s ∧ atY s ≤ 1 := by
  have h := pt_range (s + 1)
  unfold atX atY
  rcases turn_cases (ptX (s + 1)) (ptY (s + 1)) 1 with ⟨_, e1, e2⟩ | ⟨_, e1, e2⟩ | ⟨_, e1, e2⟩ | ⟨_, e1, e2⟩ <;> rw [e1, e2] <;> omega

/-- 0, 1, .., k - 1, and noughts up to n. -/
def fillTo (n k : Nat) : List Int := (List.range k).map Int.ofNat ++ List.replicate (n - k) 0
theorem fillTo_length {n k : Nat} (h : k ≤ n) : (fillTo n k).length = n := by simp [fillTo]; omega
theorem fillTo_set {n k : Nat} (h : k < n) : (fillTo n k).set k (k : Int) = fillTo n (k + 1) := by
  unfold fillTo
  obtain ⟨j, hj⟩ : ∃ j, n - k = j + 1 := ⟨n - k - 1, by omega⟩
  rw [hj, show n - (k + 1) = j by omega, List.replicate_succ]
  rw [List.set_append_right _ _ (by simp)]
  simp [List.range_succ]

theorem makes (n : Nat) (hn : n ≤ 1000) (w : World) : (Instr.makeSlice 31 (.int .i64 (n : Int)) (.int .i64 (n : Int))).run Try.prog w = .ok (.slice (some ⟨w.heap.size, 0, none⟩) n n) (w.alloc (rowObj 3 (fillTo n 0))) := by
  obtain ⟨i0, hi, hz0, hz1, hz2⟩ := info_parts Try.info_int
  rw [run_make w _ _ i0 _ Try.underlying31 hi hz0 .i64 .i64 n n (by omega) (by omega) (by rw [hz2]; omega) (by omega)]
  rw [hz1]
  have : (madeCells (Value.int .i64 0).cells (((n : Int)).toNat * 1)) = ((fillTo n 0).map (Value.int .i64)).toArray := by
    apply Array.ext'
    rw [Int.toNat_natCast, Nat.mul_one]
    show (madeCells #[.int .i64 0] n).toList = _
    rw [toList_madeCells_one]
    simp [fillTo]
  rw [this]
  rfl

def Quick : Int → Prop := fun a => 0 ≤ a ∧ a ≤ 8
set_option maxRecDepth 100000 in
theorem compares (s cb : Nat) (w : World) (h : w.cell? ⟨cb, 0, none⟩ = some (.complex .f64 (ff (atX s)) (ff (atY s)))) : Compares (dist s) Quick cb w := by
  rintro a b w' ⟨ha0, ha8⟩ ⟨hb0, hb8⟩ hc
  rw [h] at hc
  obtain ⟨p, rfl⟩ := Int.eq_ofNat_of_zero_le ha0
  obtain ⟨q, rfl⟩ := Int.eq_ofNat_of_zero_le hb0
  have r1 := pt_range p
  have r2 := pt_range q
  have r3 := at_range s
  clear h
  unfold dist
  simp only [Int.toNat_natCast]
  go_enter Try.func39, Try.ntmps39
  go_wp2_with fail
  go_quiet ((first | (go_at_call 19; exact Calls.quiet_of_same (spiral_small _ _ (by omega))) | (go_at_call 21; exact Calls.quiet_of_same (apart_any _ _ _ _ _ (by omega) (by omega) (by omega) (by omega) (by omega) (by omega) (by omega) (by omega))) | (go_at_call 40; exact Calls.quiet_of_same (compare_any _ _ _))))
  go_wp2
  go_ret
  exact ⟨rfl, _, rfl⟩

/-- The nodes that keep shard s, the nearest first. -/
def copiesL (s n c : Nat) : List Int := (isortTo (dist s) (fillTo n n) (n - 1)).take c
theorem copiesL_length {s n c : Nat} (h : c ≤ n) : (copiesL s n c).length = c := by
  unfold copiesL
  rw [List.length_take, isortTo_length, fillTo_length (Nat.le_refl _)]
  omega

theorem row_news {w : World} {g t : Nat} {L : List Int} (h : w.heap[g]? = some (rowObj t L)) (c : Nat) : ∀ j u, ((L.take c).map (Value.int .i64))[j]? = some u → w.cell? ((⟨g, 0, none⟩ : Addr).add j) = some u := by
  intro j u hj
  have e : (⟨g, 0, none⟩ : Addr).add j = ⟨g, j, none⟩ := by unfold Addr.add; split <;> simp_all
  rw [e, cell_of_obj h j]
  rw [List.map_take, List.getElem?_take] at hj
  split at hj
  · simpa using hj
  · cases hj
theorem OwnInts.later {w w5 w6 : World} {v : Value} {L : List Int} (h : OwnInts w5 w6 v L) (hb : Below w.heap.size w w5) : OwnInts w w6 v L := by
  obtain ⟨gg, cap, rfl, h1, h2, h3⟩ := h
  have hs := hb.size
  refine ⟨gg, cap, rfl, by omega, hb.trans (h2.mono hs), h3.1, ?_⟩
  rcases h3.2 with h | ⟨g, c, cur, k1, k2, k3⟩
  · exact .inl h
  · exact .inr ⟨g, c, cur, k1, by omega, k3⟩
/-- The world of Copies before its loop: where the shard stands, and the row. -/
def atW (w : World) (s n : Nat) : World := (w.alloc (Obj.cells #[.complex .f64 (ff (turnX (ptX (s + 1)) (ptY (s + 1)) 1)) (ff (turnY (ptX (s + 1)) (ptY (s + 1)) 1))] 57)).alloc (rowObj 3 (fillTo n 0))
theorem atW_row (w : World) (s n : Nat) : (atW w s n).heap[w.heap.size + 1]? = some (rowObj 3 (fillTo n 0)) := by
  have e := heap_alloc_new (w.alloc (Obj.cells #[.complex .f64 (ff (turnX (ptX (s + 1)) (ptY (s + 1)) 1)) (ff (turnY (ptX (s + 1)) (ptY (s + 1)) 1))] 57)) (rowObj 3 (fillTo n 0))
  rw [World.size_alloc] at e
  exact e
theorem atW_at (w : World) (s n : Nat) : (atW w s n).cell? ⟨w.heap.size, 0, none⟩ = some (.complex .f64 (ff (atX s)) (ff (atY s))) := by
  unfold atW
  rw [World.cell?_alloc_lt _ _ _ (by simp)]
  exact cell_of_obj (heap_alloc_new w _) 0
theorem atW_below (w : World) (s n : Nat) : Below w.heap.size w (atW w s n) := ((Below.refl _ _).alloc (Nat.le_refl _) _).alloc (by simp) _
def FillRel (w : World) (g n : Nat) (iv : Value) (wr : World) : Prop := ∃ k : Nat, iv = .int .i64 k ∧ k ≤ n ∧ OnlyB w wr g (rowObj 3 (fillTo n k))
def CopiesOk (w w' : World) (e : Ending) (L : List Int) : Prop := ∃ v, e = .returned (.tuple #[v, .int .i64 0]) ∧ OwnInts w w' v L

set_option maxRecDepth 100000 in
set_option maxHeartbeats 1000000 in
theorem copies_ok (s n c : Nat) (w : World) (hn1 : 1 ≤ n) (hn2 : n ≤ 9) (hc1 : 1 ≤ c) (hc2 : c ≤ n) (hc3 : c ≤ 7) (hodd : c % 2 = 1) (hs : s < 8) :
    Calls Try.prog 11 #[.int .i64 s, .int .i64 n, .int .i64 c] w fun e w' => CopiesOk w w' e (copiesL s n c) := by
  have hmk := makes n (by omega)
  have r1 := pt_range (s + 1)
  have hst := fun (w : World) (a : Addr) (x y : Nat) (m : Mode) => run_store Try.prog w a (.complex .f64 x y) m rfl
  have hodd' : ((c : Int) % 2 == 0) = false := beq_eq_false_iff_ne.2 (by omega)
  have hmf : ∀ (fn : Fn) (first cap : Array Value) (w : World), (Instr.makeFunc fn first cap).run Try.prog w = .ok (.func fn first cap) w := fun _ _ _ _ => rfl
  have h7 : n ≤ 7 ∨ 7 < n := by omega
  rcases h7 with h7 | h7
  all_goals
    go_enter Try.func11, Try.ntmps11
    go_wp2_with (first | (go_at_call 19; (with_reducible refine (flipW (spiral_at _ (s + 1) _ (by omega) (by omega))).mono ?_); rintro e w1 ⟨rfl, rfl⟩) | (go_at_call 23; (with_reducible refine (flipW (turn_any _ _ _ _ (by omega) (by omega) (by omega) (by omega))).mono ?_); rintro e w1 ⟨rfl, rfl⟩))
    have g1 := atW_row w s n
    clear hmk hst
    go_loopw [48] (fun iv wr => FillRel (atW w s n) (w.heap.size + 1) n iv wr) (fun iv _ => (n - intOf iv).toNat)
    case atStart => exact ⟨0, rfl, by omega, OnlyB.refl g1⟩
    case round =>
      obtain ⟨k, rfl, hk, hO⟩ := hrel
      have hrow := hO.at_ (lt_of_obj g1)
      by_cases hlt : k < n
      · have hcell := row_cell hrow k (by rw [fillTo_length hk]; exact hlt)
        have hfree := row_free hrow k
        have hset := OnlyB.set hO (lt_of_obj g1) k (.int .i64 k)
        rw [row_set, fillTo_set hlt] at hset
        have HS := Lib.hid hset
        clear hset g1
        go_wp2
        exact ⟨⟨k + 1, by go_num, by omega, HS.out⟩, by simp [intOf]; omega⟩
      · obtain rfl : k = n := by omega
        have hc := compares s w.heap.size wr ((hO.cell (a := ⟨w.heap.size, 0, none⟩) (by simp)).trans (atW_at w s k))
        have HC := Lib.hid (sortStable_any (dist s) Quick w.heap.size (w.heap.size + 1) k k (fillTo k k) wr (fillTo_length (Nat.le_refl _)) (by omega) (fun x hx => by simp [fillTo] at hx; obtain ⟨q, h1, rfl⟩ := hx; exact ⟨by omega, by omega⟩) hc hrow (by omega))
        clear hc
        go_wp2_with (go_at_call 38; (with_reducible refine (HC.out).mono ?_); rintro e w5 ⟨rfl, ho⟩)
        have hrow5 := ho.at_ (lt_of_obj hrow)
        have HK := Lib.hid (clone_any ⟨w.heap.size + 1, 0, none⟩ c k (copiesL s k c) w5 (copiesL_length hc2) (by omega) (by omega) (row_news hrow5 c))
        have HB : Below w.heap.size w w5 := ((atW_below w s k).trans (hO.below (by omega))).trans (ho.below (by omega))
        clear hrow hrow5 hO ho
        go_wp2_with (go_at_call 41; (with_reducible refine (HK.out).mono ?_); rintro e w6 ⟨v, rfl, hv⟩)
        go_ret2
        exact ⟨v, rfl, hv.later HB⟩

theorem copies_int (zs zn zc : Int) (s n c : Nat) (w : World) (es : zs = s) (en : zn = n) (ec : zc = c) (hn1 : 1 ≤ n) (hn2 : n ≤ 9) (hc1 : 1 ≤ c) (hc2 : c ≤ n) (hc3 : c ≤ 7) (hodd : c % 2 = 1) (hs : s < 8) :
    Calls Try.prog 11 #[.int .i64 zs, .int .i64 zn, .int .i64 zc] w fun e w' => CopiesOk w w' e (copiesL s n c) := by
  subst es en ec
  exact copies_ok s n c w hn1 hn2 hc1 hc2 hc3 hodd hs
set_option maxRecDepth 100000 in
theorem copies_bad (s n c : Int) (w : World) (h : n < 1 ∨ 9 < n ∨ c < 1 ∨ min n 7 < c ∨ c % 2 = 0 ∨ s < 0 ∨ 8 ≤ s) :
    Calls Try.prog 11 #[.int .i64 s, .int .i64 n, .int .i64 c] w fun e w' => e = .returned (.tuple #[.slice none 0 0, .int .i64 30]) ∧ w = w' := by
  by_cases h1 : n < 1
  · go_enter Try.func11, Try.ntmps11
    go_wp2
    go_ret2
    exact ⟨rfl, rfl⟩
  by_cases h2 : 9 < n
  · go_enter Try.func11, Try.ntmps11
    go_wp2
    go_ret2
    exact ⟨rfl, rfl⟩
  by_cases h3 : c < 1
  · go_enter Try.func11, Try.ntmps11
    go_wp2
    go_ret2
    exact ⟨rfl, rfl⟩
  have h7 : n ≤ 7 ∨ 7 < n := by omega
  by_cases h4 : min n 7 < c
  · rcases h7 with h7 | h7
    · have h4' : n < c := by omega
      clear h4 h
      go_enter Try.func11, Try.ntmps11
      go_wp2
      go_ret2
      exact ⟨rfl, rfl⟩
    · have h4' : 7 < c := by omega
      clear h4 h
      go_enter Try.func11, Try.ntmps11
      go_wp2
      go_ret2
      exact ⟨rfl, rfl⟩
  have h4' : c ≤ n ∧ c ≤ 7 := by omega
  obtain ⟨h41, h42⟩ := h4'
  have hx : (c % 2 == 0) = true ∨ ((c % 2 == 0) = false ∧ (s < 0 ∨ (¬ s < 0 ∧ 8 ≤ s))) := by
    by_cases h5 : c % 2 = 0
    · left; exact beq_iff_eq.2 h5
    · right; exact ⟨beq_eq_false_iff_ne.2 h5, by omega⟩
  clear h h4
  rcases hx with hx | ⟨hx, h6 | ⟨h6, h8⟩⟩ <;> rcases h7 with h7 | h7
  all_goals
    go_enter Try.func11, Try.ntmps11
    go_wp2
    go_ret2
    exact ⟨rfl, rfl⟩
end Go.Proofs.Ytbgojhjlmlbfpaa
