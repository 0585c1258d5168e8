/- PlaneExact (tallylaw3): the shelf between calls, Copies' list as a list for the shelf, into, one ask whole. -/
import Derived.Test.YtbgojhjlmlbfpaaPlQ
import Derived.Test.YtbgojhjlmlbfpaaShelfE
namespace Go.Proofs.Ytbgojhjlmlbfpaa
open Go.RowKit Fl

def ShelfAt (w : World) (base S N : Nat) (ρ : Nat → Nat) : Prop := ∃ f V O D, ShelfI w base ρ S f V O D ∧ V.length = N ∧ O.length = N ∧ D.length = N ∧ (∃ s : Nat, f 0 = .int .i64 s ∧ s ≤ 850 * N) ∧ Free w ρ ∧ base ≤ S ∧ (N = 0 → f 1 = .slice none 0 0)
theorem ShelfAt.keep {R : Nat → Prop} {w w' : World} {base S N : Nat} {ρ ρ' : Nat → Nat} (h : ShelfAt w base S N ρ) (hK : Keeps R w ρ w' ρ') (hf : Free w' ρ') (hR : ∀ r, 1 ≤ r → ¬ R r) : ShelfAt w' base S N ρ' := by
  obtain ⟨f, V, O, D, h1, h2, h3, h4, h5, h6, h7, h8⟩ := h
  exact ⟨f, V, O, D, h1.keep hK (hR _ (by omega)) (hR _ (by omega)) (hR _ (by omega)) (hR _ (by omega)) (fun r hr => hR _ (by omega)), h2, h3, h4, h5, hf, h7, h8⟩
theorem ShelfAt.lo {w : World} {base S N : Nat} {ρ : Nat → Nat} (h : ShelfAt w base S N ρ) : base ≤ w.heap.size := by
  obtain ⟨f, V, O, D, h1, h2, h3, h4, h5, h6, h7, h8⟩ := h
  exact Nat.le_trans h7 (Nat.le_of_lt (lt_of_obj h1.blk.1))
/-- A list that may be laid on the shelf. -/
def Given1 (w : World) (base : Nat) (ρ : Nat → Nat) (r : Nat) (v : Value) : Prop := ∃ (L : List Int) (n : Nat), L.length = n ∧ n ≤ 100 ∧ Lst w base ρ r 3 v n (lst (ints L)) ∧ (n = 0 → v = .slice none 0 0)
theorem Given1.keep {R : Nat → Prop} {w w' : World} {base r : Nat} {ρ ρ' : Nat → Nat} {v : Value} (h : Given1 w base ρ r v) (hK : Keeps R w ρ w' ρ') (hr : ¬ R r) : Given1 w' base ρ' r v := by
  obtain ⟨L, n, a, b, c, d⟩ := h
  exact ⟨L, n, a, b, c.keep hK hr, d⟩
theorem shelf_put (w : World) (base S N : Nat) (ρ : Nat → Nat) (v : Value) (h : ShelfAt w base S N ρ) (hv : Given1 w base ρ (9 + N) v) (hN : N ≤ 4000) :
    Calls Try.prog 13 #[.pointer (some ⟨S, 0, none⟩), v] w fun e w' => e = .returned (.tuple #[]) ∧ ∃ ρ', ShelfAt w' base S (N + 1) ρ' ∧ Keeps (fun r => r = 1 ∨ r = 2 ∨ r = 3) w ρ w' ρ' ∧ Below base w w' := by
  obtain ⟨f, V, O, D, h1, h2, h3, h4, ⟨s, h5, h5'⟩, h6, h7, h8⟩ := h
  obtain ⟨L, n, a, b, c, d⟩ := hv
  rcases Nat.eq_zero_or_pos n with hn | hn
  · obtain rfl := d hn
    refine (shelfInts_none w base S N s ρ f V O D h1 h2 h3 h4 h5 (by omega) h6 h7 (by omega)).mono ?_
    rintro e w' ⟨rfl, ρ', f', o, k1, k2, k3, k4, k5⟩
    exact ⟨rfl, ρ', ⟨f', _, _, _, k1, by simp [h2], by simp [h3], by simp [h4], ⟨_, k2, by omega⟩, k4, h7, fun h => by omega⟩, k3, k5⟩
  · refine (shelfInts_some w base S N s n ρ f V O D L v h1 h2 h3 h4 h5 (by omega) c a hn b h6 h7 (by omega)).mono ?_
    rintro e w' ⟨rfl, ρ', f', o, k1, k2, k3, k4, k5⟩
    exact ⟨rfl, ρ', ⟨f', _, _, _, k1, by simp [h2], by simp [h3], by simp [h4], ⟨_, k2, by omega⟩, k4, h7, fun h => by omega⟩, k3, k5⟩
theorem shelf_given (w : World) (base S N : Nat) (ρ : Nat → Nat) (h : ShelfAt w base S N ρ) (hN : N ≤ 5000) :
    Calls Try.prog 14 #[.pointer (some ⟨S, 0, none⟩)] w fun e w' => e = .returned (.bool true) ∧ Below base w w' := by
  obtain ⟨f, V, O, D, h1, h2, h3, h4, _, h6, h7, h8⟩ := h
  exact given_ints w base S N ρ f V O D h1 h2 h3 hN h6 h7 h8
def newShelf : Nat → Value := fun k => if k = 0 then .int .i64 0 else .slice none 0 0
theorem shelf_new (w : World) (base : Nat) (hb : base ≤ w.heap.size) : ShelfAt (w.alloc (cellsObj 30 11 newShelf)) base w.heap.size 0 (lab (fun _ => 0) w.heap.size 1) := by
  have e1 : newShelf 1 = .slice none 0 0 := rfl
  have e2 : newShelf 2 = .slice none 0 0 := rfl
  refine ⟨newShelf, [], [], [], ⟨⟨heap_alloc_new w _, lab_eq⟩, fun k h1 h2 => ?_, ⟨.inl ⟨rfl, rfl⟩, ?_⟩, ⟨.inl ⟨rfl, rfl⟩, ?_⟩, by simp, by simp⟩, rfl, rfl, rfl, ⟨0, rfl, by omega⟩, ?_, hb, fun _ => rfl⟩
  · unfold newShelf; rw [if_neg (by omega)]
  · rw [e1]; simp [Value.ownBlock]
  · rw [e2]; simp [Value.ownBlock]
  · intro k hk
    simp at hk
    exact lab_ne (by omega)

/-- Copies: whatever it answers may be laid on the shelf. -/
def Got (w w' : World) (v : Value) : Prop := Below w.heap.size w w' ∧ ∃ (L : List Int) (n : Nat), L.length = n ∧ n ≤ 100 ∧ w'.ownsRow w.heap.size 3 1 v n (ints L) ∧ (n = 0 → v = .slice none 0 0)
theorem copies_got (s n c : Int) (w : World) : Calls Try.prog 11 #[.int .i64 s, .int .i64 n, .int .i64 c] w fun e w' => ∃ v z, e = .returned (.tuple #[v, .int .i64 z]) ∧ Got w w' v := by
  refine (copies_any s n c w).mono ?_
  rintro e w' (⟨rfl, rfl, _⟩ | ⟨s', n', c', rfl, rfl, rfl, h1, h2, h3, v, rfl, hv⟩)
  · exact ⟨_, _, rfl, Below.refl _ _, [], 0, rfl, by omega, ⟨rfl, .inl ⟨rfl, rfl⟩⟩, fun _ => rfl⟩
  · have hlen := copiesL_length (s := s') h2
    exact ⟨v, 0, rfl, hv.below, copiesL s' n' c', _, rfl, by omega, hv.row (Nat.le_refl _), fun h => by omega⟩
theorem Got.label {w w' : World} {base r : Nat} {ρ : Nat → Nat} {v : Value} (h : Got w w' v) (hb : base ≤ w.heap.size) (hf : Free w ρ) : ∃ ρ', Keeps (fun _ => False) w ρ w' ρ' ∧ Free w' ρ' ∧ Given1 w' base ρ' r v := by
  obtain ⟨hB, L, n, h1, h2, h3, h4⟩ := h
  have hO := One.ofRow h3
  have hO' : One w' base 3 1 v n (lst (ints L)) := by
    rcases hO with k | ⟨g, cap, cur, k1, k2, k3⟩
    · exact .inl k
    · exact .inr ⟨g, cap, cur, k1, by omega, k3⟩
  cases hg : v.ownBlock with
  | none => exact ⟨ρ, Keeps.below _ _ hB, hf.le hB.size, L, n, h1, h2, ⟨hO', fun g h => by rw [hg] at h; cases h⟩, h4⟩
  | some g =>
    have hbk := hO.block hg
    refine ⟨lab ρ g r, ⟨hB.size, fun k hk => ⟨lab_ne (by omega), fun _ => hB.block k hk⟩⟩, hf.lab hB.size hbk.2 r, L, n, h1, h2, ⟨hO', fun g' h => ?_⟩, h4⟩
    rw [hg] at h
    injection h with h
    subst h
    exact lab_eq

/-- One ask, whatever it is. -/
theorem ask_any (d a b c px py qx qy : Int) (w : World) (B base turn H : Nat) (h : BookAt w B base turn H) (hb : base ≤ w.heap.size) (ht : turn ≤ 19000) :
    Calls Try.prog 15 #[.agg #[.int .i64 d, .int .i64 a, .int .i64 b, .int .i64 c, .int .i64 px, .int .i64 py, .int .i64 qx, .int .i64 qy], .pointer (some ⟨B, 0, none⟩)] w fun e w' =>
      e = .returned (.bool true) ∧ (∃ t, t ≤ turn + 1 ∧ BookAt w' B base t w'.heap.size) ∧ Below base w w' := by
  have low : ∀ {w' : World}, Below w.heap.size w w' → (∃ t, t ≤ turn + 1 ∧ BookAt w' B base t w'.heap.size) ∧ Below base w w' := fun hb' => ⟨⟨turn, by omega, (h.top hb').here⟩, hb'.mono hb⟩
  by_cases h1 : d = 1
  · subst h1
    exact (ask_spiral a b c px py qx qy w _).mono fun e w' ⟨h1, h2⟩ => ⟨h1, low h2⟩
  by_cases h2 : d = 2
  · subst h2
    exact (ask_turn a b c px py qx qy w _).mono fun e w' ⟨h1, h2⟩ => ⟨h1, low h2⟩
  by_cases h3 : d = 3
  · subst h3
    exact (ask_apart a b c px py qx qy w _).mono fun e w' ⟨h1, h2⟩ => ⟨h1, low h2⟩
  by_cases h4 : d = 4
  · subst h4
    rcases copies_cases a b c with k | ⟨s', n', c', rfl, rfl, rfl, k1, k2, k3, k4, k5, k6, k7⟩
    · exact (ask_bad a b c px py qx qy w B base turn H h hb ht k).mono fun e w' ⟨h1, h2, h3⟩ => ⟨h1, ⟨_, Nat.le_refl _, h2⟩, h3⟩
    · exact (ask_good s' n' c' px py qx qy w B base turn H h hb ht k1 k2 k3 k4 k5 k6 k7).mono fun e w' ⟨h1, h2, h3⟩ => ⟨h1, ⟨_, Nat.le_refl _, h2⟩, h3⟩
  · exact (ask_other d a b c px py qx qy w B base turn H h hb (by omega) h1 h2 h3 h4).mono fun e w' ⟨h1, h2, h3⟩ => ⟨h1, ⟨turn, by omega, h2⟩, h3⟩
set_option maxRecDepth 100000 in
theorem into3 (n : Int) (w : World) : Calls Try.prog 12 #[.int .i64 n, .int .i64 8] w fun e w' => (∃ z : Int, e = .returned (.int .i64 z)) ∧ w = w' := by
  obtain ⟨r, hr⟩ : ∃ r, n.tmod 8 = r := ⟨_, rfl⟩
  have hlo : -8 < r ∧ r < 8 := by
    have := Int.tmod_lt_of_pos n (show (0:Int) < 8 by omega)
    have := Int.lt_tmod_of_pos n (show (0:Int) < 8 by omega)
    omega
  by_cases hneg : r < 0
  · go_enter Try.func12, Try.ntmps12
    go_wp2
    go_ret
    exact ⟨⟨_, rfl⟩, rfl⟩
  · go_enter Try.func12, Try.ntmps12
    go_wp2
    go_ret
    exact ⟨⟨_, rfl⟩, rfl⟩
end Go.Proofs.Ytbgojhjlmlbfpaa
