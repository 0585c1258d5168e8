/- PlaneExact (tallylaw3): the walk. -/
import Derived.Test.YtbgojhjlmlbfpaaPlR
import Derived.Deep.RegionHeld3
namespace Go.Proofs.Ytbgojhjlmlbfpaa
open Go.RowKit Fl

theorem ShelfAt.free {w : World} {base S N : Nat} {ρ : Nat → Nat} (h : ShelfAt w base S N ρ) : Free w ρ := by
  obtain ⟨f, V, O, D, h1, h2, h3, h4, h5, h6, h7, h8⟩ := h
  exact h6
theorem ShelfAt.drew {w : World} {base S N : Nat} {ρ : Nat → Nat} (h : ShelfAt w base S N ρ) : ShelfAt w.drew base S N ρ := h.keep (Keeps.below (fun _ => False) ρ ((Below.refl _ _).drew)) (h.free.le (Nat.le_refl _)) (fun _ _ => id)
theorem ShelfAt.got {w w' : World} {base S N r : Nat} {ρ : Nat → Nat} {v : Value} (h : ShelfAt w base S N ρ) (hg : Got w w' v) : ∃ ρ', ShelfAt w' base S N ρ' ∧ Keeps (fun _ => False) w ρ w' ρ' ∧ Given1 w' base ρ' r v ∧ Below base w w' := by
  obtain ⟨ρ', K, F, G⟩ := hg.label (r := r) h.lo h.free
  exact ⟨ρ', h.keep K F (fun _ _ => id), K, G, hg.1.mono h.lo⟩
/-- The asks as they came in: eight numbers each. -/
def AsksAt (w : World) (A : Option Addr) (n : Nat) : Prop := ∀ i, i < n → ∃ (b off : Nat) (x0 x1 x2 x3 x4 x5 x6 x7 : Int), A = some ⟨b, off, none⟩ ∧ b < w.heap.size ∧
  w.cell? ⟨b, off + i * 8, none⟩ = some (.int .i64 x0) ∧ w.cell? ⟨b, off + i * 8 + 1, none⟩ = some (.int .i64 x1) ∧ w.cell? ⟨b, off + i * 8 + 2, none⟩ = some (.int .i64 x2) ∧ w.cell? ⟨b, off + i * 8 + 3, none⟩ = some (.int .i64 x3) ∧
  w.cell? ⟨b, off + i * 8 + 4, none⟩ = some (.int .i64 x4) ∧ w.cell? ⟨b, off + i * 8 + 5, none⟩ = some (.int .i64 x5) ∧ w.cell? ⟨b, off + i * 8 + 6, none⟩ = some (.int .i64 x6) ∧ w.cell? ⟨b, off + i * 8 + 7, none⟩ = some (.int .i64 x7)
def LayRel (w : World) (n : Nat) (iv : Value) (wr : World) : Prop := ∃ (i : Nat) (ρ : Nat → Nat), iv = .int .i64 i ∧ i ≤ n ∧ i ≤ 200 ∧ ShelfAt wr w.heap.size w.heap.size (4 * i) ρ ∧ Below w.heap.size w wr
def LayRel2 (w : World) (i : Nat) (kv : Value) (wr : World) : Prop := ∃ (k : Nat) (ρ : Nat → Nat), kv = .int .i64 k ∧ k ≤ 2 ∧ ShelfAt wr w.heap.size w.heap.size (4 * i + 2 * k) ρ ∧ Below w.heap.size w wr
def AskRel (w : World) (n B : Nat) (iv : Value) (wr : World) : Prop := ∃ (i t : Nat), iv = .int .i64 i ∧ i ≤ n ∧ i ≤ 200 ∧ t ≤ i ∧ BookAt wr B w.heap.size t wr.heap.size ∧ Below w.heap.size w wr

def bookCells : Array Value := #[.slice none 0 0, .slice none 0 0, .int .i64 0, .slice none 0 0, .slice none 0 0, .int .i64 0, .slice none 0 0, .slice none 0 0, .int .i64 0, .slice none 0 0, .slice none 0 0, .int .i64 0, .slice none 0 0, .slice none 0 0, .int .i64 0, .slice none 0 0, .slice none 0 0, .int .i64 0, .slice none 0 0, .slice none 0 0, .int .i64 0, .slice none 0 0, .slice none 0 0, .int .i64 0, .slice none 0 0, .slice none 0 0, .int .i64 0, .slice none 0 0, .slice none 0 0, .int .i64 0, .slice none 0 0, .slice none 0 0, .int .i64 0, .slice none 0 0, .slice none 0 0, .int .i64 0, .int .i64 0, .int .i64 0, .int .i64 0]
set_option maxRecDepth 100000 in
theorem book_built {o : Oper} {a : Act} {w : World} {K : Act → World → Prop} {Q : Exit → Act → World → Prop} (ho : o.op = .build 52 #[]) (h : K (a.put o.dst (.agg bookCells)) w) : o.wp Try.prog a w K Q := by
  have e : Try.prog.built 52 [] = some bookCells := by kernel_rfl
  refine wp_build 52 #[] ho (by simp [e]) ?_
  simpa [e] using h
set_option maxRecDepth 100000 in
set_option maxHeartbeats 4000000 in
theorem exact_walk (A : Option Addr) (n cap : Nat) (w : World) (hA : AsksAt w A n) (hn : n ≤ 9223372036854775807) :
    Calls Try.prog 3 #[.slice A n cap] w fun e w' => e = .returned (.bool true) ∧ Below w.heap.size w w' := by
  go_enter Try.func3, Try.ntmps3
  go_wp2
  go_loopw [4] (fun iv wr => LayRel w n iv wr) (fun iv _ => (200 - intOf iv).toNat)
  case atStart => exact ⟨0, _, rfl, by omega, by omega, shelf_new w _ (Nat.le_refl _), (Below.refl _ _).alloc (Nat.le_refl _) _⟩
  case round =>
    obtain ⟨i, ρ, rfl, hi, hi2, hS, hb⟩ := hrel
    by_cases hin : i < n ∧ i < 200
    · obtain ⟨b, off, x0, x1, x2, x3, x4, x5, x6, x7, rfl, hbb, c0, c1, c2, c3, _⟩ := hA i hin.1
      have hin1 := hin.1
      have hin2 := hin.2
      have q1 : (i : Int) < (n : Int) := by omega
      have q2 : (i : Int) < 200 := by omega
      clear hA hin
      go_wp2
      go_loopw [5] (fun kv wr => LayRel2 w i kv wr) (fun kv _ => (2 - intOf kv).toNat)
      case atStart => exact ⟨0, ρ, rfl, by omega, hS, hb⟩
      case round =>
        clear hS hb
        obtain ⟨k, ρ1, rfl, hk, hS, hb⟩ := hrel
        by_cases hk2 : k < 2
        · have d1 := cellKeep hb c1
          have d2 := cellKeep hb c2
          have d3 := cellKeep hb c3
          have q0 : (0 : Int) ≤ (i : Int) := by omega
          go_wp2
          go_region_held3 (fun w' => w'.cell? ⟨b, off + i * 8 + 1, none⟩ = some (.int .i64 x1) ∧ w'.cell? ⟨b, off + i * 8 + 2, none⟩ = some (.int .i64 x2) ∧ w'.cell? ⟨b, off + i * 8 + 3, none⟩ = some (.int .i64 x3))
            (first | (go_split_ands; refine ⟨?_, ?_, ?_⟩ <;> first | assumption | (refine cellKeep hg5.1 ?_; assumption)) | go_keep)
            ((go_at_call 11; (with_reducible refine (copies_got x1 x2 x3 _).mono ?_); rintro e w5 ⟨v5, z5, rfl, hg5⟩))
          have hSd := hS.drew
          obtain ⟨ρ2, hS2, K2, G2, L2⟩ := hSd.got (r := 9 + (4 * i + 2 * k)) hg5
          have hL2 := Below.trans (Below.drew hb) L2
          have e1 := cellKeep hL2 c1
          clear hS hSd hg5 K2 L2
          go_wp2_with (first | (go_at_call 12; (with_reducible refine (into3 x1 _).mono ?_); rintro e w6 ⟨⟨z6, rfl⟩, rfl⟩) | (go_at_call 11; (with_reducible refine (copies_got z6 7 5 _).mono ?_); rintro e w7 ⟨v7, z7, rfl, hg7⟩; obtain ⟨ρ3, hS3, K3, G3, L3⟩ := hS2.got (r := 9 + (4 * i + 2 * k + 1)) hg7; have G2b := G2.keep K3 id; have hL3 := Below.trans hL2 L3; have P3 := shelf_put w7 _ _ _ ρ3 v5 hS3 G2b (by omega)) | (go_at_call 13; first | ((with_reducible refine P3.mono ?_); rintro e w8 ⟨rfl, ρ4, hS4, K4, L4⟩; have P4 := shelf_put w8 _ _ _ ρ4 v7 hS4 (G3.keep K4 (by omega)) (by omega); have hL4 := Below.trans hL3 L4) | ((with_reducible refine P4.mono ?_); rintro e w9 ⟨rfl, ρ5, hS5, K5, L5⟩; have hL5 := Below.trans hL4 L5)))
          exact ⟨⟨k + 1, ρ5, by go_num, by omega, by rw [show 4 * i + 2 * (k + 1) = 4 * i + 2 * k + 1 + 1 by omega]; exact hS5, hL5⟩, by simp [intOf]; omega⟩
        · obtain rfl : k = 2 := by omega
          go_wp2
          exact ⟨⟨i + 1, ρ1, by go_num, by omega, by omega, by rw [show 4 * (i + 1) = 4 * i + 2 * 2 by omega]; exact hS, hb⟩, by simp [intOf]; omega⟩
    · have hG := shelf_given wr _ _ _ ρ hS (by omega)
      have hcond : ¬ ((i : Int) < (n : Int)) ∨ (((i : Int) < (n : Int)) ∧ ¬ ((i : Int) < 200)) := by omega
      clear hS
      rcases hcond with hc | ⟨hc, hc2⟩
      all_goals
        go_wp2_with (go_at_call 14; (with_reducible refine hG.mono ?_); rintro e w5 ⟨rfl, hb5⟩; have hb05 := Below.trans hb hb5)
        refine book_built rfl ?_
        go_wp2
        go_loopw [11] (fun iv wr => AskRel w n w5.heap.size iv wr) (fun iv _ => (200 - intOf iv).toNat)
        case atStart => exact ⟨0, 0, rfl, by omega, by omega, by omega, (BookAt.new w5 w.heap.size hb05.size).here, Below.alloc hb05 hb05.size _⟩
        case round =>
          clear hb hb5 hG hi hi2 hc
          obtain ⟨j, t, rfl, hj, hj2, ht, hB, hbj⟩ := hrel
          by_cases hjn : j < n ∧ j < 200
          · obtain ⟨b, off, x0, x1, x2, x3, x4, x5, x6, x7, rfl, hbb, c0, c1, c2, c3, c4, c5, c6, c7⟩ := hA j hjn.1
            have d0 := cellKeep hbj c0
            have d1 := cellKeep hbj c1
            have d2 := cellKeep hbj c2
            have d3 := cellKeep hbj c3
            have d4 := cellKeep hbj c4
            have d5 := cellKeep hbj c5
            have d6 := cellKeep hbj c6
            have d7 := cellKeep hbj c7
            have hj1 := hjn.1
            have hj3 := hjn.2
            have q1 : (j : Int) < (n : Int) := by omega
            have q2 : (j : Int) < 200 := by omega
            have hAsk := ask_any x0 x1 x2 x3 x4 x5 x6 x7 wr _ _ _ _ hB hbj.size (by omega)
            clear hA hjn c0 c1 c2 c3 c4 c5 c6 c7
            go_wp2_with (go_at_call 15; (with_reducible refine hAsk.mono ?_); rintro e w6 ⟨rfl, ⟨t6, ht6, hB6⟩, hb6⟩)
            exact ⟨⟨j + 1, t6, by go_num, by omega, by omega, by omega, hB6, Below.trans hbj hb6⟩, by simp [intOf]; omega⟩
          · have hcj : ¬ ((j : Int) < (n : Int)) ∨ (((j : Int) < (n : Int)) ∧ ¬ ((j : Int) < 200)) := by omega
            rcases hcj with hcj | ⟨hcj, hcj2⟩
            all_goals
              go_wp2_with (first | (go_at_call 16; (with_reducible refine (wakes_any _).mono ?_); rintro e w7 ⟨rfl, hb7⟩; have hB7 := hB.top hb7; have hb07 := Below.trans hbj (hb7.mono hbj.size)) | (go_at_call 17; (with_reducible refine (look_any _ _ _ _ _ hB7 (by omega)).mono ?_); rintro e w8 ⟨rfl, hB8, hb8⟩))
              go_ret
              exact ⟨rfl, Below.trans hb07 hb8⟩
end Go.Proofs.Ytbgojhjlmlbfpaa
