/- SettleExact: a Play's step of any kind; eight Plays in memory. -/
import Derived.Test.YtbgojhjlmlbfpaaSfR
import Derived.Test.YtbgojhjlmlbfpaaBookB
namespace Go.Proofs.Ytbgojhjlmlbfpaa
open Go.RowKit

theorem plays_any (w : World) (base r0 P B : Nat) (ρ : Nat → Nat) (t : Nat) (h : PlayAt w base ρ r0 P B false t) (hf : Free w ρ) (ht : t ≤ 4000) (kind which peer num : Int) (A : Option Addr) (n cq : Nat) (Q : List Ent) (hn : Q.length = n) (hq : Q.length ≤ 3518437208780) (hQ : ∀ W', Below base w W' → HasQ W' (.slice A n cq) Q) (hA : ∀ a, 0 < n → A = some a → a.block < base) :
    Calls Try.prog 72 #[.pointer (some ⟨P, 0, none⟩), opV kind which (.slice A n cq) peer num] w (StepEnd base ρ r0 P B false t w) := by
  by_cases k1 : kind = 1
  · subst k1
    obtain ⟨c, node, shard, S, W, c1, R, V, c2, ws, ps, qv, rv, Q0, av, an, ca, turn, hD⟩ := h
    rcases Nat.mod_two_eq_zero_or_one (turn + 1) with e | e
    · exact plays_look2 w base r0 P B ρ false t c node shard S W c1 R V c2 ws ps qv rv Q0 av an ca turn hD hf ht which peer num A n cq Q hn hq hQ hA e
    · exact plays_look1 w base r0 P B ρ false t c node shard S W c1 R V c2 ws ps qv rv Q0 av an ca turn hD hf ht which peer num A n cq Q hn hq hQ hA e
  · by_cases k2 : kind = 2
    · subst k2
      exact plays_stop w base r0 P B ρ false t h hf which peer num A n cq
    · by_cases k3 : kind = 3
      · subst k3
        exact plays_tick w base r0 P B ρ t h hf ht which peer num A n cq
      · by_cases k4 : kind = 4
        · subst k4
          exact plays_wants w base r0 P B ρ false t h hf which peer num A n cq
        · exact plays_none w base r0 P B ρ false t h hf kind which peer num A n cq (beq_eq_false_iff_ne.2 k1) (beq_eq_false_iff_ne.2 k2) (beq_eq_false_iff_ne.2 k3) (beq_eq_false_iff_ne.2 k4)
theorem PlayAt.later {w : World} {base r0 P B t : Nat} {ρ : Nat → Nat} {mark : Bool} (h : PlayAt w base ρ r0 P B mark t) : PlayAt w base ρ r0 P B mark (t + 1) := by
  obtain ⟨c, node, shard, S, W, c1, R, V, c2, ws, ps, qv, rv, Q, av, an, ca, turn, h⟩ := h
  exact ⟨c, node, shard, S, W, c1, R, V, c2, ws, ps, qv, rv, Q, av, an, ca, turn, ⟨h.obj, h.set, h.ref, h.at_, h.atr, h.pl.later, h.conf, h.q, by have := h.tn; omega, h.lo⟩⟩
/-- A Book with nothing in it: Look tells true and leaves it. -/
def newBookS : Nat → Value := fun k => if k % 3 = 2 ∨ 36 ≤ k then .int .i64 0 else .slice none 0 0
theorem book_none (w : World) (B : Nat) (h : w.heap[B]? = some (bookObj newBookS)) : BookI w B 0 newBookS [] [] [] := by
  have e9 : newBookS 9 = .slice none 0 0 := rfl
  have e10 : newBookS 10 = .slice none 0 0 := rfl
  refine ⟨h, ?_, ⟨rfl, .inl ⟨e9, rfl⟩⟩, ⟨rfl, .inl ⟨e10, rfl⟩⟩, by simp, ⟨fun _ => 0, rfl, ?_, ?_, by simp⟩, by simp, by simp⟩
  · intro k hk
    simp at hk
    rcases hk with rfl | rfl | rfl | rfl | rfl | rfl | rfl | rfl | rfl | rfl | rfl <;> exact ⟨rfl, rfl⟩
  all_goals
    intro g hg
    first | rw [e9] at hg | rw [e10] at hg
    simp [Value.ownBlock] at hg
theorem below_drewNS {B : Nat} {w w1 : World} (h : Below B w w1) : ∀ k, Below B w (w1.drewN k)
  | 0 => h
  | k + 1 => by
    have := below_drewNS h k
    exact ⟨this.os, this.tape, this.output, this.size, this.block⟩
set_option maxRecDepth 100000 in
theorem look_none (w : World) (B : Nat) (h : w.heap[B]? = some (bookObj newBookS)) :
    Calls Try.prog 17 #[.pointer (some ⟨B, 0, none⟩)] w fun e w' => e = .returned (.bool true) ∧ Below w.heap.size w w' := by
  have hb := book_none w B h
  have c36 : w.cell? ⟨B, 36, none⟩ = some (.int .i64 0) := book_cell hb.blk 36 (by omega)
  have c37 : w.cell? ⟨B, 37, none⟩ = some (.int .i64 0) := book_cell hb.blk 37 (by omega)
  have hI := Lib.hid hb
  clear hb
  go_enter Try.func17, Try.ntmps17
  go_wp2_with (go_at_call 52; (with_reducible refine (bookHolds_ints _ B 0 newBookS [] [] [] hI.out rfl).mono ?_); rintro e w1 ⟨rfl, q, rfl⟩)
  go_quiet (fail)
  go_wp2
  go_ret
  exact ⟨rfl, below_drewNS (below_drewNS (Below.refl w.heap.size w) _) _⟩
/-- The script's cells. -/
def scriptV (x0 x1 x2 x3 x4 x5 x6 x7 x8 x9 x10 x11 : Int) (A : Option Addr) (n cap : Nat) : Array Value := #[.int .i64 x0, .int .i64 x1, .int .i64 x2, .int .i64 x3, .int .i64 x4, .int .i64 x5, .int .i64 x6, .int .i64 x7, .int .i64 x8, .int .i64 x9, .int .i64 x10, .int .i64 x11, .slice A n cap]
structure Eight (w wr : World) (so : Obj) (i t : Nat) (ρ : Nat → Nat) (P : Nat → Nat) (arr : Array Value) : Prop where
  box : wr.heap[w.heap.size]? = some so
  book : wr.heap[w.heap.size + 1]? = some (bookObj newBookS)
  ao : wr.heap[w.heap.size + 2]? = some (.cells arr 152 (0, 0))
  sz : arr.size = 8
  ptr : ∀ j, j < i → arr[j]? = some (.pointer (some ⟨P j, 0, none⟩))
  play : ∀ j, j < i → PlayAt wr (w.heap.size + 3) ρ (64 * j) (P j) (w.heap.size + 1) false t
  free : Free wr ρ
  bel : Below w.heap.size w wr
  lo : w.heap.size + 3 ≤ wr.heap.size
  z : ∀ k, k < w.heap.size + 3 → ρ k = 0
theorem Eight.go {w wr w' : World} {so : Obj} {i t : Nat} {ρ ρ' : Nat → Nat} {P : Nat → Nat} {arr : Array Value} {R : Nat → Prop} (h : Eight w wr so i t ρ P arr) (hK : Keeps R wr ρ w' ρ') (hR : ∀ j r, j < i → 64 * j + 1 ≤ r → r < 64 * j + 64 → ¬ R r) (hf : Free w' ρ') (hb : Below (w.heap.size + 3) wr w') : Eight w w' so i t ρ' P arr :=
  ⟨(hb.block _ (by omega)).trans h.box, (hb.block _ (by omega)).trans h.book, (hb.block _ (by omega)).trans h.ao, h.sz, h.ptr, fun j hj => (h.play j hj).keep hK (fun r h1 h2 => hR j r hj h1 h2), hf, h.bel.trans (hb.mono (by omega)), Nat.le_trans h.lo hK.1, fun k hk => ((hK.2 k (Nat.lt_of_lt_of_le hk h.lo)).1).trans (h.z k hk)⟩
theorem Eight.below {w wr w' : World} {so : Obj} {i t : Nat} {ρ : Nat → Nat} {P : Nat → Nat} {arr : Array Value} (h : Eight w wr so i t ρ P arr) (hb : Below wr.heap.size wr w') : Eight w w' so i t ρ P arr :=
  h.go (Keeps.below (fun _ => False) ρ hb) (fun _ _ _ _ _ => id) (h.free.le hb.size) (hb.mono h.lo)
theorem Eight.step {w wr w' : World} {so : Obj} {i t j : Nat} {ρ : Nat → Nat} {P : Nat → Nat} {arr : Array Value} {e : Ending} (h : Eight w wr so i t ρ P arr) (hj : j < i) (hs : StepEnd (w.heap.size + 3) ρ (64 * j) (P j) (w.heap.size + 1) false t wr e w') : e = .returned (.bool true) ∧ Below w.heap.size wr w' ∧ ∃ ρ', Eight w w' so i (t + 1) ρ' P arr := by
  obtain ⟨he, ρ', hP, hK, hF, hB⟩ := hs
  refine ⟨he, hB.mono (by omega), ρ', (hB.block _ (by omega)).trans h.box, (hB.block _ (by omega)).trans h.book, (hB.block _ (by omega)).trans h.ao, h.sz, h.ptr, fun k hk => ?_, hF, h.bel.trans (hB.mono (by omega)), Nat.le_trans h.lo hK.1, fun k hk => ((hK.2 k (Nat.lt_of_lt_of_le hk h.lo)).1).trans (h.z k hk)⟩
  by_cases hkj : k = j
  · subst hkj; exact hP
  · exact ((h.play k hk).keep hK (fun r h1 h2 h3 => by omega)).later
theorem Eight.put {w wr : World} {so : Obj} {i t p : Nat} {ρ : Nat → Nat} {P : Nat → Nat} {arr : Array Value} (h : Eight w wr so i t ρ P arr) (hi : i < 8) (hp : PlayAt wr (w.heap.size + 3) ρ (64 * i) p (w.heap.size + 1) false t) :
    Eight w (wr.setCell ⟨w.heap.size + 2, i, none⟩ (.pointer (some ⟨p, 0, none⟩))) so (i + 1) t ρ (fun k => if k = i then p else P k) (arr.setIfInBounds i (.pointer (some ⟨p, 0, none⟩))) := by
  have hlt := lt_of_obj h.ao
  have hO := OnlyB.set (OnlyB.refl h.ao) hlt i (.pointer (some ⟨p, 0, none⟩))
  have hK : Keeps (fun r => r = 0) wr ρ _ ρ := Keeps.only ρ hO (h.z _ (by omega))
  refine ⟨(hO.far (by omega)).trans h.box, (hO.far (by omega)).trans h.book, hO.at_ hlt, by simp [h.sz], fun j hj => ?_, fun j hj => ?_, h.free.le (Nat.le_of_eq hO.size.symm), h.bel.trans (hO.below (by omega)), by rw [hO.size]; exact h.lo, h.z⟩
  · rw [Array.getElem?_setIfInBounds]
    by_cases hji : j = i
    · subst hji
      rw [if_pos rfl, if_pos (by rw [h.sz]; exact hi), if_pos rfl]
    · rw [if_neg (fun e => hji e.symm), if_neg hji]
      exact h.ptr j (by omega)
  · by_cases hji : j = i
    · subst hji
      rw [if_pos rfl]
      exact hp.keep hK (fun r h1 h2 => by omega)
    · rw [if_neg hji]
      exact (h.play j (by omega)).keep hK (fun r h1 h2 => by omega)
def nil8 : Array Value := #[.pointer none, .pointer none, .pointer none, .pointer none, .pointer none, .pointer none, .pointer none, .pointer none]
theorem eight_start (w : World) (cs : Array Value) (ts : TypeId) (wr : World) (h : wr = ((w.alloc (.cells cs ts (0, 0))).alloc (bookObj newBookS)).alloc (.cells nil8 152 (0, 0))) : Eight w wr (.cells cs ts (0, 0)) 0 0 (fun _ => 0) (fun _ => 0) nil8 := by
  subst h
  refine ⟨?_, ?_, ?_, rfl, fun j hj => by omega, fun j hj => by omega, fun _ _ => rfl, ?_, by simp, fun _ _ => rfl⟩
  · rw [Below.heap_alloc _ _ _ (by simp; omega), Below.heap_alloc _ _ _ (by simp)]; exact heap_alloc_new w _
  · have e := heap_alloc_new (w.alloc (.cells cs ts (0, 0))) (bookObj newBookS)
    rw [World.size_alloc] at e
    rw [Below.heap_alloc _ _ _ (by simp)]; exact e
  · have e := heap_alloc_new ((w.alloc (.cells cs ts (0, 0))).alloc (bookObj newBookS)) (.cells nil8 152 (0, 0))
    rw [World.size_alloc, World.size_alloc] at e
    exact e
  · exact (((Below.refl _ w).alloc (Nat.le_refl _) _).alloc (by simp) _).alloc (by simp; omega) _
end Go.Proofs.Ytbgojhjlmlbfpaa
