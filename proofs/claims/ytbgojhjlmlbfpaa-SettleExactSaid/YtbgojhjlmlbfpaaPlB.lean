/- slices.SortStableFunc at []int, few elements: the library's insertion sort, as a contract over any comparison that answers 'cmpZ' of a number of each element; and plane.Copies. -/
import Derived.Test.YtbgojhjlmlbfpaaProg
import Derived.Test.YtbgojhjlmlbfpaaMem
import Derived.Test.YtbgojhjlmlbfpaaPlA
namespace Go.Proofs.Ytbgojhjlmlbfpaa
open Go.RowKit Fl

/-- cmp.Compare. -/
def cmpZ (x y : Int) : Int := if x < y then -1 else if y < x then 1 else 0
theorem cmpZ_neg {x y : Int} (h : x < y) : cmpZ x y < 0 := by unfold cmpZ; rw [if_pos h]; omega
theorem cmpZ_nonneg {x y : Int} (h : ¬ x < y) : ¬ cmpZ x y < 0 := by unfold cmpZ; rw [if_neg h]; split <;> omega

set_option maxRecDepth 100000 in
theorem compare_any (x y : Int) (w : World) : Calls Try.prog 40 #[.int .i64 x, .int .i64 y] w fun e w' => e = .returned (.int .i64 (cmpZ x y)) ∧ w' = w := by
  have h1 : (x != x) = false := by simp
  have h2 : (y != y) = false := by simp
  unfold cmpZ
  by_cases hx : x < y
  · rw [if_pos hx]
    go_enter Try.func40, Try.ntmps40
    go_wp2
    go_ret
    exact ⟨rfl, rfl⟩
  · rw [if_neg hx]
    by_cases hy : y < x
    · rw [if_pos hy]
      go_enter Try.func40, Try.ntmps40
      go_wp2
      go_ret
      exact ⟨rfl, rfl⟩
    · rw [if_neg hy]
      go_enter Try.func40, Try.ntmps40
      go_wp2
      go_ret
      exact ⟨rfl, rfl⟩

/-- One element brought down to its place: as the library's inner loop does. -/
def bub (d : Int → Int) : List Int → Nat → List Int
  | L, 0 => L
  | L, j + 1 => if d (L.getD (j + 1) 0) < d (L.getD j 0) then bub d ((L.set (j + 1) (L.getD j 0)).set j (L.getD (j + 1) 0)) j else L
def isortTo (d : Int → Int) (L : List Int) : Nat → List Int
  | 0 => L
  | m + 1 => bub d (isortTo d L m) (m + 1)
theorem bub_length (d : Int → Int) : ∀ (j : Nat) (L : List Int), (bub d L j).length = L.length
  | 0, L => rfl
  | j + 1, L => by
    unfold bub
    split
    · rw [bub_length d j]; simp
    · rfl
theorem isortTo_length (d : Int → Int) (L : List Int) : ∀ m, (isortTo d L m).length = L.length
  | 0 => rfl
  | m + 1 => by unfold isortTo; rw [bub_length, isortTo_length d L m]

theorem getD_mem {L : List Int} {j : Nat} (h : j < L.length) : L.getD j 0 ∈ L := by
  rw [List.getD_eq_getElem?_getD, List.getElem?_eq_getElem h]
  exact List.getElem_mem h
theorem set_set_all {P : Int → Prop} {L : List Int} (h : ∀ x ∈ L, P x) {i j : Nat} {a b : Int} (ha : P a) (hb : P b) : ∀ x ∈ (L.set i b).set j a, P x := by
  intro x hx
  rcases List.mem_or_eq_of_mem_set hx with h1 | h1
  · rcases List.mem_or_eq_of_mem_set h1 with h2 | h2
    · exact h x h2
    · exact h2 ▸ hb
  · exact h1 ▸ ha
theorem swap_only {w wi : World} {g t p : Nat} {cur : List Int} (h : OnlyB w wi g (rowObj t cur)) (hg : g < w.heap.size) (a b : Int) : OnlyB w ((wi.setCell ⟨g, p + 1, none⟩ (.int .i64 b)).setCell ⟨g, p, none⟩ (.int .i64 a)) g (rowObj t ((cur.set (p + 1) b).set p a)) := by
  have h1 := OnlyB.set h hg (p + 1) (.int .i64 b)
  rw [row_set] at h1
  have h2 := OnlyB.set h1 hg p (.int .i64 a)
  rw [row_set] at h2
  exact h2
/-- The comparison: it reads, and answers. -/
def Compares (d : Int → Int) (P : Int → Prop) (cb : Nat) (w : World) : Prop :=
  ∀ (a b : Int) (w' : World), P a → P b → w'.cell? ⟨cb, 0, none⟩ = w.cell? ⟨cb, 0, none⟩ →
    Calls Try.prog 39 #[.int .i64 a, .int .i64 b, .pointer (some ⟨cb, 0, none⟩)] w' fun e w'' => e = .returned (.int .i64 (cmpZ (d a) (d b))) ∧ ∃ k, w'' = w'.drewN k

def InRel (d : Int → Int) (P : Int → Prop) (w : World) (g n : Nat) (goal : List Int) (i : Nat) (jv : Value) (wr : World) : Prop :=
  ∃ (z : Int) (cur : List Int), jv = .int .i64 z ∧ 0 ≤ z ∧ z ≤ i ∧ cur.length = n ∧ (∀ x ∈ cur, P x) ∧ bub d cur z.toNat = goal ∧ OnlyB w wr g (rowObj 3 cur)
def OutRel (d : Int → Int) (P : Int → Prop) (w : World) (g n : Nat) (L : List Int) (iv : Value) (wr : World) : Prop :=
  ∃ m : Nat, iv = .int .i64 ((m : Int) + 1) ∧ m + 1 ≤ max n 1 ∧ (∀ x ∈ isortTo d L m, P x) ∧ OnlyB w wr g (rowObj 3 (isortTo d L m))

set_option maxRecDepth 100000 in
set_option maxHeartbeats 1000000 in
theorem insertion_any (d : Int → Int) (P : Int → Prop) (cb g n cap : Nat) (L : List Int) (w : World) (hL : L.length = n) (hn : n ≤ 20) (hP : ∀ x ∈ L, P x) (hC : Compares d P cb w) (hg : w.heap[g]? = some (rowObj 3 L)) (hne : cb ≠ g) :
    Calls Try.prog 114 #[.slice (some ⟨g, 0, none⟩) n cap, .int .i64 0, .int .i64 n, .func (.func 39) #[] #[.pointer (some ⟨cb, 0, none⟩)]] w fun e w' => e = .returned (.tuple #[]) ∧ OnlyB w w' g (rowObj 3 (isortTo d L (n - 1))) := by
  go_enter Try.func114, Try.ntmps114
  go_wp2
  go_loopw [8] (fun iv wr => OutRel d P w g n L iv wr) (fun iv _ => (n + 1 - intOf iv).toNat)
  case atStart => exact ⟨0, rfl, by omega, hP, OnlyB.refl hg⟩
  case round =>
    obtain ⟨m, rfl, hm, hPm, hO⟩ := hrel
    obtain ⟨wo, rfl⟩ : ∃ wo : World, wo = wr := ⟨_, rfl⟩
    by_cases hlt : m + 1 < n
    · go_wp2
      go_loopw [9] (fun jv wr => InRel d P w g n (isortTo d L (m + 1)) (m + 1) jv wr) (fun jv _ => (intOf jv).toNat)
      case atStart => exact ⟨(m : Int) + 1, isortTo d L m, rfl, by omega, by omega, (isortTo_length d L m).trans hL, hPm, rfl, hO⟩
      case round =>
        clear hO hPm
        obtain ⟨z, cur, rfl, hz0, hz1, hcl, hPc, hb, hO⟩ := hrel
        obtain ⟨wi, rfl⟩ : ∃ wi : World, wi = wr := ⟨_, rfl⟩
        by_cases hz : 0 < z
        · obtain ⟨p, rfl⟩ : ∃ p : Nat, z = (p : Int) + 1 := ⟨(z - 1).toNat, by omega⟩
          have hgo := hO.at_ (lt_of_obj hg)
          have x1 := row_cell hgo (p + 1) (by omega)
          have x0 := row_cell hgo p (by omega)
          have f1 := row_free hgo (p + 1)
          have f0 := row_free hgo p
          obtain ⟨a, ha⟩ : ∃ a, cur.getD (p + 1) 0 = a := ⟨_, rfl⟩
          obtain ⟨b, hb'⟩ : ∃ b, cur.getD p 0 = b := ⟨_, rfl⟩
          have hPa : P a := ha ▸ hPc _ (getD_mem (by omega))
          have hPb : P b := hb' ▸ hPc _ (getD_mem (by omega))
          rw [ha] at x1
          rw [hb'] at x0
          have hcc : ∀ k, (wi.drewN k).cell? ⟨cb, 0, none⟩ = w.cell? ⟨cb, 0, none⟩ := fun k => hO.cell (a := ⟨cb, 0, none⟩) hne
          have q0 : (0 : Int) ≤ (p : Int) := by omega
          have q1 : (p : Int) < (n : Int) := by omega
          have q2 : (0 : Int) ≤ (p : Int) + 1 := by omega
          have q3 : (p : Int) + 1 < (n : Int) := by omega
          rw [show ((p : Int) + 1).toNat = p + 1 by omega] at hb
          simp only [bub, ha, hb'] at hb
          have Hb := Lib.hid hb
          have Hc := Lib.hid hcc
          clear hb hcc ha hb'
          by_cases hd : d a < d b
          · have hcz := cmpZ_neg hd
            go_wp2_with fail
            go_quiet ((go_at_call 39; exact Calls.quiet_of (hC a b _ hPa hPb (Hc.out _))))
            go_wp2
            go_region
            all_goals go_wp2
            all_goals exact ⟨⟨(p : Int), _, rfl, by omega, by omega, by simp [hcl], set_set_all hPc hPa hPb, by have := Hb.out; rw [if_pos hd] at this; rw [Int.toNat_natCast]; exact this, swap_only (hO.drewN _) (lt_of_obj hg) a b⟩, by simp [intOf]⟩
          · have hcz := cmpZ_nonneg hd
            go_wp2_with fail
            go_quiet ((go_at_call 39; exact Calls.quiet_of (hC a b _ hPa hPb (Hc.out _))))
            go_wp2
            have hfin := Hb.out
            rw [if_neg (by omega)] at hfin
            subst hfin
            exact ⟨⟨m + 1, by go_num, by omega, hPc, hO.drewN _⟩, by simp [intOf]; omega⟩
        · have hzd : decide (0 < z) = false := decide_eq_false hz
          rw [show z.toNat = 0 by omega, bub] at hb
          have Hb := Lib.hid hb
          clear hb
          go_wp2_with fail
          go_quiet (fail)
          go_wp2
          have hfin := Hb.out
          subst hfin
          exact ⟨⟨m + 1, by go_num, by omega, hPc, hO.drewN _⟩, by simp [intOf]; omega⟩
    · go_wp2
      go_end0
      obtain rfl : m = n - 1 := by omega
      exact ⟨rfl, hO⟩

set_option maxRecDepth 100000 in
theorem stable_any (d : Int → Int) (P : Int → Prop) (cb g n cap : Nat) (L : List Int) (w : World) (hL : L.length = n) (hn : n < 20) (hP : ∀ x ∈ L, P x) (hC : Compares d P cb w) (hg : w.heap[g]? = some (rowObj 3 L)) (hne : cb ≠ g) :
    Calls Try.prog 73 #[.slice (some ⟨g, 0, none⟩) n cap, .int .i64 n, .func (.func 39) #[] #[.pointer (some ⟨cb, 0, none⟩)]] w fun e w' => e = .returned (.tuple #[]) ∧ OnlyB w w' g (rowObj 3 (isortTo d L (n - 1))) := by
  have H := Lib.hid (insertion_any d P cb g n cap L w hL (by omega) hP hC hg hne)
  clear hL hP hC hg hne
  have h20 : ¬ (20 : Int) ≤ (n : Int) := by omega
  have h20' : ¬ (20 : Int) < (n : Int) := by omega
  go_enter Try.func73, Try.ntmps73
  go_wp2
  refine wp_loop_rounds 1 ?_
  rw [rounds_succ]
  go_wp2_with (go_at_call 114; (with_reducible refine (H.out).mono ?_); rintro e w1 ⟨rfl, ho⟩)
  refine wp_loop_rounds 1 ?_
  rw [rounds_succ]
  go_wp2
  go_end0
  exact ⟨rfl, ho⟩
set_option maxRecDepth 100000 in
theorem sortStable_any (d : Int → Int) (P : Int → Prop) (cb g n cap : Nat) (L : List Int) (w : World) (hL : L.length = n) (hn : n < 20) (hP : ∀ x ∈ L, P x) (hC : Compares d P cb w) (hg : w.heap[g]? = some (rowObj 3 L)) (hne : cb ≠ g) :
    Calls Try.prog 38 #[.slice (some ⟨g, 0, none⟩) n cap, .func (.func 39) #[] #[.pointer (some ⟨cb, 0, none⟩)]] w fun e w' => e = .returned (.tuple #[]) ∧ OnlyB w w' g (rowObj 3 (isortTo d L (n - 1))) := by
  have H := Lib.hid (stable_any d P cb g n cap L w hL hn hP hC hg hne)
  clear hL hP hC hg hne
  go_enter Try.func38, Try.ntmps38
  go_wp2_with (go_at_call 73; (with_reducible refine (H.out).mono ?_); rintro e w1 ⟨rfl, ho⟩)
  go_end0
  exact ⟨rfl, ho⟩

theorem Try.info_int : (Try.prog.info? 3).map (fun i => (i.zero, i.size, i.bytes)) = some (some (.int .i64 0), 1, 8) := by kernel_rfl
/-- A slice of ints of the call's own. -/
def OwnInts (w w' : World) (v : Value) (L : List Int) : Prop := ∃ gg cap, v = .slice (some ⟨gg, 0, none⟩) L.length cap ∧ w.heap.size ≤ gg ∧ Below w.heap.size w w' ∧ w'.ownsRow w.heap.size 3 1 v L.length (L.map (Value.int .i64))
def SomeOwn (w w' : World) (e : Ending) (L : List Int) : Prop := ∃ v, e = .returned v ∧ OwnInts w w' v L
set_option maxRecDepth 100000 in
theorem clone_any (ad : Addr) (m cap : Nat) (L : List Int) (w : World) (hL : L.length = m) (hm : 0 < m) (hm2 : m ≤ 1000000) (hc : ∀ j u, (L.map (Value.int .i64))[j]? = some u → w.cell? (ad.add j) = some u) :
    Calls Try.prog 41 #[.slice (some ad) m cap] w fun e w' => SomeOwn w w' e L := by
  obtain ⟨i0, hi, hz0, hz1, hz2⟩ := info_parts Try.info_int
  have he : ∀ w, (binOp .eql 31 (.slice (some ad) m cap) (.slice none 0 0)).run Try.prog w = .ok (.bool false) w := fun w => by
    simp only [binOp]
    simp [run_equal_slice_nil w _ _ _ _ _ Try.underlying31]
  go_enter Try.func41, Try.ntmps41
  have hown := World.ownsRow_made (base := w.heap.size) (e := 3) (size := 1) w #[] 0 (Nat.le_refl _) (by unfold maxLen; omega) rfl
  have hc' : ∀ j u, (L.map (Value.int .i64))[j]? = some u → (w.alloc (.cells #[] 3)).cell? (ad.add j) = some u := fun j u hj => by
    have := hc j u hj
    rw [World.cell?_alloc_lt w _ _ (World.block_lt_of_cell? w _ this)]; exact this
  have HH := Lib.hid hc'
  clear hc hc'
  have hl : (L.map (Value.int .i64)).length = m * 1 := by simp [hL]
  have hone : ∀ u ∈ L.map (Value.int .i64), u.oneCell' = true := by intro u hu; obtain ⟨x, _, rfl⟩ := List.mem_map.1 hu; rfl
  have hmx : 0 + m ≤ maxLen := by unfold maxLen; omega
  have HL := Lib.hid hl
  clear hl
  go_wp2_with (at_builtin; refine wpList_append_own _ rfl (.tmp 5) (.tmp 6) 31 rfl w.heap.size 3 i0 (.int .i64 0) 1 8 Try.underlying31 hi hz0 hz1 hz2 rfl (by decide) (.slice (some ⟨w.heap.size, 0, none⟩) 0 0) 0 [] rfl hown ad m cap (L.map (Value.int .i64)) rfl HL.out HH.out hone hmx (by omega) (by simp) ?_; intro v' w1 hown1 hgrow hnil)
  go_ret
  obtain ⟨g', cap', hv, hg', _⟩ := World.ownsRow.form hown1 (by omega)
  rw [Nat.zero_add, List.nil_append] at hown1
  rw [Nat.zero_add] at hv
  refine ⟨_, rfl, g', cap', ?_, hg', ?_, ?_⟩
  · subst hL; exact hv
  · exact ((Below.refl _ _).alloc (Nat.le_refl _) _).trans ⟨hgrow.os, hgrow.tape, hgrow.output, hgrow.size, fun k hk => hgrow.block k (by rw [World.size_alloc]; omega) (fun e => by have e' : k = w.heap.size := (by simpa [Value.ownBlock] using e); omega)⟩
  · subst hL; exact hown1
end Go.Proofs.Ytbgojhjlmlbfpaa
