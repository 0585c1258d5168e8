/- settle.Settle: Wants of a peer. -/
import Derived.Test.YtbgojhjlmlbfpaaSeF
import Derived.Test.YtbgojhjlmlbfpaaSeB
import Derived.Deep.RegionHeld3
namespace Go.Proofs.Ytbgojhjlmlbfpaa
open Go.RowKit

set_option maxRecDepth 100000 in
theorem contains_wants (w : World) (v : Value) (Q : List Ent) (b0 b1 : Nat) (p m : Int) (hb : w.cell? ⟨b0, 0, none⟩ = some (.int .i64 p)) (hm : w.cell? ⟨b1, 0, none⟩ = some (.int .u64 m)) (hQ : HasQ w v Q) (hn : Q.length ≤ 9223372036854775807) :
    Calls Try.prog 69 #[v, .func (.func 70) #[] #[.pointer (some ⟨b0, 0, none⟩), .pointer (some ⟨b1, 0, none⟩)]] w fun en w' => en = .returned (.bool (Q.any (wantsB p m))) ∧ Below w.heap.size w w' := by
  have hI := index_wants w v Q b0 b1 p m hb hm hQ hn
  obtain ⟨A, cp, rfl, _⟩ := hQ
  cases hf : Q.findIdx? (wantsB p m) with
  | none =>
    rw [hf] at hI
    have ha : Q.any (wantsB p m) = false := by
      rw [List.findIdx?_eq_none_iff] at hf
      simp only [List.any_eq_false]
      intro x hx
      rw [hf x hx]
      simp
    rw [ha]
    have hI' : Calls Try.prog 65 #[.slice A Q.length cp, .func (.func 70) #[] #[.pointer (some ⟨b0, 0, none⟩), .pointer (some ⟨b1, 0, none⟩)]] w fun en w' => en = .returned (.int .i64 (-1)) ∧ Below w.heap.size w w' := hI
    obtain ⟨n, hn'⟩ : ∃ n, Q.length = n := ⟨_, rfl⟩
    rw [hn'] at hI' ⊢
    clear hI ha
    go_enter Try.func69, Try.ntmps69
    go_wp2_with (go_at_call 65; (with_reducible refine hI'.mono ?_); rintro e w2 ⟨rfl, hb2⟩)
    go_ret
    exact ⟨rfl, hb2⟩
  | some k =>
    rw [hf] at hI
    have ha : Q.any (wantsB p m) = true := by
      obtain ⟨hk, h1, _⟩ := List.findIdx?_eq_some_iff_getElem.1 hf
      rw [List.any_eq_true]
      exact ⟨Q[k], List.getElem_mem _, h1⟩
    rw [ha]
    have hI' : Calls Try.prog 65 #[.slice A Q.length cp, .func (.func 70) #[] #[.pointer (some ⟨b0, 0, none⟩), .pointer (some ⟨b1, 0, none⟩)]] w fun en w' => en = .returned (.int .i64 ((k : Nat) : Int)) ∧ Below w.heap.size w w' := hI
    obtain ⟨n, hn'⟩ : ∃ n, Q.length = n := ⟨_, rfl⟩
    rw [hn'] at hI' ⊢
    have hk0 : (0 : Int) ≤ (k : Int) := by omega
    clear hI ha
    go_enter Try.func69, Try.ntmps69
    go_wp2_with (go_at_call 65; (with_reducible refine hI'.mono ?_); rintro e w2 ⟨rfl, hb2⟩)
    go_ret
    exact ⟨rfl, hb2⟩
set_option maxRecDepth 100000 in
set_option maxHeartbeats 1000000 in
theorem settle_wants (w : World) (base r0 S N W cap i : Nat) (m : Int) (ρ : Nat → Nat) (node shard : Int) (ws : Nat → Way) (qv : Value) (Q : List Ent) (h : SetAt w base ρ r0 S node shard N ws (.slice (some ⟨W, 0, none⟩) N cap) qv Q) (hi : i < N) (his : (i : Int) ≠ shard) (hq : Q.length ≤ 3518437208780) :
    Calls Try.prog 34 #[.pointer (some ⟨S, 0, none⟩), .int .i64 (i : Nat), .int .u64 m] w fun e w' => e = .returned (.bool (Q.any (wantsB i m))) ∧ Below w.heap.size w w' := by
  obtain ⟨c0, c1, c2, c3⟩ := h.cells
  have hb : Below w.heap.size w ((w.alloc (.cells #[.int .i64 (i : Nat)] 3)).alloc (.cells #[.int .u64 m] 95)) := ((Below.refl _ _).alloc (Nat.le_refl _) _).alloc (by simp) _
  have d0 : ((w.alloc (.cells #[.int .i64 (i : Nat)] 3)).alloc (.cells #[.int .u64 m] 95)).cell? ⟨w.heap.size, 0, none⟩ = some (.int .i64 (i : Nat)) := by
    rw [cell_of_obj (cs := #[.int .i64 (i : Nat)]) (t := 3) (by rw [Below.heap_alloc _ _ _ (by simp)]; exact heap_alloc_new w _) 0]; rfl
  have d1 : ((w.alloc (.cells #[.int .i64 (i : Nat)] 3)).alloc (.cells #[.int .u64 m] 95)).cell? ⟨w.heap.size + 1, 0, none⟩ = some (.int .u64 m) := by
    have e := heap_alloc_new (w.alloc (.cells #[.int .i64 (i : Nat)] 3)) (.cells #[.int .u64 m] 95)
    rw [World.size_alloc] at e
    rw [cell_of_obj e 0]; rfl
  have hQ := (h.que.hasQ rfl).below hb
  have b1 := cellKeep hb c1
  have b2 := cellKeep hb c2
  have b3 := cellKeep hb c3
  obtain ⟨A, n, cp, rfl⟩ : ∃ A n cp, qv = .slice A n cp := by
    rcases h.que with ⟨rfl, _⟩ | ⟨g, cap, cur, k1, _⟩
    · exact ⟨_, _, _, rfl⟩
    · exact ⟨_, _, _, k1⟩
  have hne : ((i : Int) != shard) = true := by simp [his]
  have hsz : w.heap.size ≤ ((w.alloc (.cells #[.int .i64 (i : Nat)] 3)).alloc (.cells #[.int .u64 m] 95)).heap.size := hb.size
  have hmf : ∀ (fn : Fn) (first cap : Array Value) (w : World), (Instr.makeFunc fn first cap).run Try.prog w = .ok (.func fn first cap) w := fun _ _ _ _ => rfl
  clear c0 c1 c2 c3 h
  go_enter Try.func34, Try.ntmps34
  go_wp2
  generalize (w.alloc (.cells #[.int .i64 (i : Nat)] 3)).alloc (.cells #[.int .u64 m] 95) = w1 at hb d0 d1 hQ b1 b2 b3 hsz ⊢
  have hat := fun w' (hb' : Below w1.heap.size w1 w') => at_in w' S W N cap i (cellKeep hb' b2) hi
  have hcn := fun w' (hb' : Below w1.heap.size w1 w') => contains_wants w' (.slice A n cp) Q w.heap.size (w.heap.size + 1) i m (cellKeep hb' d0) (cellKeep hb' d1) (hQ.below hb') (by omega)
  go_region_held3 (fun w' => w'.cell? ⟨w.heap.size, 0, none⟩ = some (.int .i64 (i : Nat)) ∧ w'.cell? ⟨S, 1, none⟩ = some (.int .i64 shard) ∧ w'.cell? ⟨S, 3, none⟩ = some (.slice A n cp) ∧ Below w1.heap.size w1 w')
    (first | exact ⟨d0, b1, b3, (Below.refl _ _).drew⟩ | (go_split_ands; exact ⟨by assumption, by assumption, by assumption, by assumption⟩) | (go_split_ands; exact ⟨cellKeep hb5 d0, cellKeep hb5 b1, cellKeep hb5 b3, hb5⟩))
    ((first | (go_at_call 68; go_split_ands; (with_reducible refine (hat _ (by assumption)).mono ?_); rintro e w5 ⟨rfl, rfl⟩) | (go_at_call 69; go_split_ands; (with_reducible refine (hcn _ (by assumption)).mono ?_); rintro e w5 ⟨rfl, hb5a⟩; have hb5 : Below w1.heap.size w1 w5 := Below.trans (by assumption) (hb5a.mono (Below.size (by assumption))))))
  go_wp2
  go_ret
  go_split_ands
  exact ⟨rfl, Below.trans hb ((show Below w1.heap.size w1 _ by assumption).mono hsz)⟩
end Go.Proofs.Ytbgojhjlmlbfpaa
