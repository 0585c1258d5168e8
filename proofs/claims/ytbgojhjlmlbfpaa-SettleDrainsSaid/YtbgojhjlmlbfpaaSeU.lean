/- tallylaw13's helpers: has, without. -/
import Derived.Test.YtbgojhjlmlbfpaaSeT
namespace Go.Proofs.Ytbgojhjlmlbfpaa
open Go.RowKit

set_option maxRecDepth 100000 in
set_option maxHeartbeats 1000000 in
theorem has_true (w : World) (v : Value) (Q : List Ent) (p m : Int) (e : Ent) (hQ : HasQ w v Q) (hn : Q.length ≤ 9223372036854775807) (he : firstE Q p = some e) (hm : e.num ≤ m) :
    Calls Try.prog 35 #[v, .int .i64 p, .int .u64 m] w fun e w' => e = .returned (.bool true) ∧ Below w.heap.size w w' := by
  have hF := firstOf_any w v Q p hQ hn
  rw [he] at hF
  unfold entV at hF
  simp only [Option.getD_some, Option.isSome_some] at hF
  have HF := Lib.hid hF
  clear hF he
  obtain ⟨A, cp, rfl, _⟩ := hQ
  go_enter Try.func35, Try.ntmps35
  go_wp2_with (go_at_call 31; (with_reducible refine HF.out.mono ?_); rintro e' w2 ⟨rfl, hb2⟩; clear HF)
  go_ret
  exact ⟨rfl, hb2.trans (((Below.refl _ _).alloc (Nat.le_refl _) _).mono hb2.size)⟩
/-- What without leaves. -/
def leftB (p m : Int) (e : Ent) : Bool := (e.peer != p) || decide (m < e.num)
def WoRel (w : World) (Q : List Ent) (p m : Int) (lv iv : Value) (wr : World) : Prop :=
  ∃ i : Nat, iv = .int .i64 i ∧ i ≤ Q.length ∧ One wr w.heap.size 104 4 lv ((Q.take i).filter (leftB p m)).length (cQ ((Q.take i).filter (leftB p m))) ∧ Below w.heap.size w wr
theorem filter_next (Q : List Ent) (f : Ent → Bool) (i : Nat) (e : Ent) (h : Q[i]? = some e) : (Q.take (i + 1)).filter f = (Q.take i).filter f ++ if f e = true then [e] else [] := by
  rw [List.take_add_one, h, List.filter_append]
  congr 1
  cases hf : f e <;> simp [hf]
set_option maxRecDepth 100000 in
set_option maxHeartbeats 2000000 in
theorem without_any (w : World) (v : Value) (Q : List Ent) (p m : Int) (hQ : HasQ w v Q) (hn : Q.length ≤ 1000) :
    Calls Try.prog 36 #[v, .int .i64 p, .int .u64 m] w fun e w' => ∃ u, e = .returned u ∧ One w' w.heap.size 104 4 u (Q.filter (leftB p m)).length (cQ (Q.filter (leftB p m))) ∧ Below w.heap.size w w' := by
  obtain ⟨A, cp, rfl, _, hall⟩ := hQ
  obtain ⟨N, hN⟩ : ∃ N, Q.length = N := ⟨_, rfl⟩
  rw [hN] at hn ⊢
  obtain ⟨k0, hkk, kz0, kz1, kz2⟩ := info_parts ent_info
  have HALL := Lib.hid hall
  clear hall
  go_enter Try.func36, Try.ntmps36
  go_wp2
  go_loopw [7, 8] (fun lv iv wr => WoRel w Q p m lv iv wr) (fun _ iv _ => (N - intOf iv).toNat)
  case atStart => exact ⟨0, rfl, by omega, .inl ⟨rfl, rfl⟩, Below.refl _ _⟩
  case round =>
    obtain ⟨i, rfl, hi, hO, hB⟩ := hrel
    rw [hN] at hi
    obtain ⟨Al, cl, rfl⟩ := OneN.len hO
    by_cases hiN : i < N
    · obtain ⟨e, he⟩ : ∃ e, Q[i]? = some e := ⟨Q[i]'(by omega), List.getElem?_eq_getElem _⟩
      obtain ⟨g, off, rfl, c0, c1, c2, c3⟩ := HALL.out i e he
      have d0 := cellKeep hB c0
      have d1 := cellKeep hB c1
      have d2 := cellKeep hB c2
      have d3 := cellKeep hB c3
      have hgl : g < w.heap.size := World.block_lt_of_cell? w _ c0
      have hnext := filter_next Q (leftB p m) i e he
      have q1 : (i : Int) < (N : Int) := by omega
      have q0 : (0 : Int) ≤ (i : Int) := by omega
      obtain ⟨R, hR⟩ : ∃ R, (Q.take i).filter (leftB p m) = R := ⟨_, rfl⟩
      have hRl : R.length ≤ N := by
        rw [← hR]
        have := List.length_filter_le (leftB p m) (Q.take i)
        have h2 : (Q.take i).length ≤ i := List.length_take_le _ _
        omega
      rw [hR] at hO hnext
      obtain ⟨n, hnl⟩ : ∃ n, R.length = n := ⟨_, rfl⟩
      have HNL := Lib.hid hnl
      have hi1 : i + 1 ≤ Q.length := by omega
      rw [hR]
      rw [hnl] at hO hRl ⊢
      have hcase : (leftB p m e = false ∧ (e.peer != p) = false ∧ decide (m < e.num) = false) ∨ (leftB p m e = true ∧ ((e.peer != p) = true ∨ ((e.peer != p) = false ∧ decide (m < e.num) = true))) := by
        unfold leftB
        cases (e.peer != p) <;> cases decide (m < e.num) <;> simp
      rcases hcase with ⟨hf, k1, k2⟩ | ⟨hf, hk⟩
      · rw [hf, if_neg (by simp), List.append_nil] at hnext
        have HO := Lib.hid hO
        have HNX := Lib.hid hnext
        clear hO hnext c0 c1 c2 c3 hf hN hnl hR
        go_wp2
        exact ⟨⟨i + 1, by go_num, hi1, by rw [HNX.out, HNL.out]; exact HO.out, hB⟩, by simp [intOf]; omega⟩
      · rw [hf, if_pos rfl] at hnext
        have hbase := hB.size
        have hba : Below wr.heap.size wr (wr.alloc (.cells #[.int .i64 e.peer, .int .u64 e.num, .string e.name, .int .u64 e.amt] 104)) := (Below.refl _ _).alloc (Nat.le_refl _) _
        have hbz : wr.heap.size ≤ (wr.alloc (.cells #[.int .i64 e.peer, .int .u64 e.num, .string e.name, .int .u64 e.amt] 104)).heap.size := hba.size
        have hOa : One (wr.alloc (.cells #[.int .i64 e.peer, .int .u64 e.num, .string e.name, .int .u64 e.amt] 104)) w.heap.size 104 4 (.slice Al n cl) n (cQ (R ++ [e])) :=
          (hO.same fun g hg => hba.block g (hO.block hg).2).congr fun k hk => by
            unfold cQ
            rw [List.getElem?_append_left (by omega)]
        have hnc : ∀ k, k < 1 * 4 → [.int .i64 e.peer, .int .u64 e.num, .string e.name, .int .u64 e.amt][k]? = some (cQ (R ++ [e]) (n * 4 + k)) := fun k hk => by
          rw [cQ_at (R ++ [e]) n k (by omega) (e := e) (by rw [← hnl]; simp)]
          match k, hk with
          | 0, _ => rfl
          | 1, _ => rfl
          | 2, _ => rfl
          | 3, _ => rfl
        have hn7 := World.news_of_block (heap_alloc_new wr (.cells #[.int .i64 e.peer, .int .u64 e.num, .string e.name, .int .u64 e.amt] 104))
        have hvb : ∀ g, (Value.slice Al n cl).ownBlock = some g → w.heap.size ≤ g := fun g hg => (hO.block hg).1
        have HO := Lib.hid hOa
        have HNX := Lib.hid hnext
        have HNC := Lib.hid hnc
        have HN7 := Lib.hid hn7
        clear hO hOa hnext c0 c1 c2 c3 hf hN hnl hR hnc hn7
        rcases hk with k1 | ⟨k1, k2⟩
        all_goals
          go_wp2_with (at_builtin; refine wpList_append_marked rfl (.tmp 31) (.tmp 36) 80 rfl w.heap.size 104 k0 entZero 4 40 Try.underlying80 hkk kz0 kz1 kz2 rfl (by decide) (.slice Al n cl) n (cQ (R ++ [e])) rfl HO.out ⟨wr.heap.size, 0, none⟩ 1 1 [.int .i64 e.peer, .int .u64 e.num, .string e.name, .int .u64 e.amt] rfl rfl HNC.out HN7.out (by simp [Value.oneCell']) (by omega) (by unfold maxLen; omega) (by omega) (by omega) ?_; intro g8 cap8 w8 ho8 hgrow8 hat8 hkeep8)
          refine ⟨⟨i + 1, by go_num, hi1, ?_, ?_⟩, by simp [intOf]; omega⟩
          · rw [HNX.out, List.length_append, HNL.out]
            exact ho8
          · exact hB.trans ((hba.mono hbase).trans (grown_belowN hgrow8 hvb (Nat.le_trans hbase hbz)))
    · obtain rfl : i = N := by omega
      have hT : Q.take i = Q := List.take_of_length_le (by omega)
      rw [hT] at hO ⊢
      clear hT hN
      go_wp2
      go_ret
      exact ⟨_, rfl, hO, hB⟩
end Go.Proofs.Ytbgojhjlmlbfpaa
