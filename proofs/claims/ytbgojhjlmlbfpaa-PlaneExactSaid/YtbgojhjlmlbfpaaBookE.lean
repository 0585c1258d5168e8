/- tallylaw1.Book that keeps lists of ints alone: grow, Look. -/
import Derived.Test.YtbgojhjlmlbfpaaBookD
namespace Go.Proofs.Ytbgojhjlmlbfpaa
open Go.RowKit

/-- What grow leaves. -/
structure Grew (w wr : World) (B base : Nat) (f f' : Nat → Value) (V : List Value) (M : List Nat) (E : List Value) (F : List Nat) (X : List (Value × Nat × Nat)) (b turn : Nat) : Prop where
  bk : BookI wr B base f' (V ++ E) (M ++ F) X
  len : E.length = F.length
  bound : E.length ≤ b
  same : ∀ k, k ≠ 9 → k ≠ 10 → k ≠ 11 → k ≠ 37 → f' k = f k
  bel : Below base w wr
  at_ : f' 11 = .int .i64 ((V ++ E).length : Nat)
  done : f' 37 = .int .i64 turn
set_option maxRecDepth 100000 in
set_option maxHeartbeats 1000000 in
theorem grow_any (w : World) (B base at_ turn : Nat) (f : Nat → Value) (V : List Value) (M : List Nat) (X : List (Value × Nat × Nat)) (h : BookI w B base f V M X) (hVM : V.length = M.length) (hat : f 11 = .int .i64 at_) (hat2 : at_ ≤ V.length)
    (hV : V.length + 32 * (V.length - at_) ≤ 900000) (hsm : ∀ (k : Nat) (v : Value), at_ ≤ k → V[k]? = some v → vlen v ≤ 900000) (hBb : base ≤ B) (ht : f 36 = .int .i64 turn) :
    Calls Try.prog 53 #[.pointer (some ⟨B, 0, none⟩)] w fun e w' => e = .returned (.tuple #[]) ∧ ∃ f' E F X', Grew w w' B base f f' V M E F X' (32 * (V.length - at_)) turn := by
  go_enter Try.func53, Try.ntmps53
  go_wp2_with (first | (go_at_call 90; (with_reducible refine (growBytes_none _ B f h.blk (h.rest.at 0 (by simp)) (h.rest.at2 0 (by simp))).mono ?_); rintro e w1 ⟨rfl, o1⟩; have h1 := h.only o1 rfl rfl h.rest; have b1 := o1.below hBb) | (go_at_call 91; (with_reducible refine (growRows_none _ B f h1.blk (h1.rest.at 3 (by simp)) (h1.rest.at2 3 (by simp))).mono ?_); rintro e w2 ⟨rfl, o2⟩; have h2 := h1.only o2 rfl rfl h1.rest; have b2 := b1.trans (o2.below hBb)) | (go_at_call 92; (with_reducible refine (growTexts_none _ B f h2.blk (h2.rest.at 6 (by simp)) (h2.rest.at2 6 (by simp))).mono ?_); rintro e w3 ⟨rfl, o3⟩; have h3 := h2.only o3 rfl rfl h2.rest; have b3 := b2.trans (o3.below hBb)) | (go_at_call 93; (with_reducible refine (growInts_any _ B base at_ f V M X h3 hVM hat hat2 hV hsm hBb).mono ?_); rintro e w4 ⟨rfl, f2, E, F, X2, hG, hf11⟩; have h4 := hG.bk; have b4 := b3.trans hG.bel) | (go_at_call 94; (with_reducible refine (growWords_none _ B f2 h4.blk (h4.rest.at 12 (by simp)) (h4.rest.at2 12 (by simp))).mono ?_); rintro e w5 ⟨rfl, o5⟩; have h5 := h4.only o5 rfl rfl h4.rest; have b5 := b4.trans (o5.below hBb)) | (go_at_call 95; (with_reducible refine (growDones_none _ B f2 h5.blk (h5.rest.at 15 (by simp)) (h5.rest.at2 15 (by simp))).mono ?_); rintro e w6 ⟨rfl, o6⟩; have h6 := h5.only o6 rfl rfl h5.rest; have b6 := b5.trans (o6.below hBb)) | (go_at_call 96; (with_reducible refine (growAccts_none _ B f2 h6.blk (h6.rest.at 18 (by simp)) (h6.rest.at2 18 (by simp))).mono ?_); rintro e w7 ⟨rfl, o7⟩; have h7 := h6.only o7 rfl rfl h6.rest; have b7 := b6.trans (o7.below hBb)) | (go_at_call 97; (with_reducible refine (growQueue_none _ B f2 h7.blk (h7.rest.at 21 (by simp)) (h7.rest.at2 21 (by simp))).mono ?_); rintro e w8 ⟨rfl, o8⟩; have h8 := h7.only o8 rfl rfl h7.rest; have b8 := b7.trans (o8.below hBb)) | (go_at_call 98; (with_reducible refine (growSlots_none _ B f2 h8.blk (h8.rest.at 24 (by simp)) (h8.rest.at2 24 (by simp))).mono ?_); rintro e w9 ⟨rfl, o9⟩; have h9 := h8.only o9 rfl rfl h8.rest; have b9 := b8.trans (o9.below hBb)) | (go_at_call 99; (with_reducible refine (growMsgs_none _ B f2 h9.blk (h9.rest.at 27 (by simp)) (h9.rest.at2 27 (by simp))).mono ?_); rintro e w10 ⟨rfl, o10⟩; have h10 := h9.only o10 rfl rfl h9.rest; have b10 := b9.trans (o10.below hBb)) | (go_at_call 100; (with_reducible refine (growFlights_none _ B f2 h10.blk (h10.rest.at 30 (by simp)) (h10.rest.at2 30 (by simp))).mono ?_); rintro e w11 ⟨rfl, o11⟩; have h11 := h10.only o11 rfl rfl h10.rest; have b11 := b10.trans (o11.below hBb)) | (go_at_call 101; (with_reducible refine (growFiles_none _ B f2 h11.blk (h11.rest.at 33 (by simp)) (h11.rest.at2 33 (by simp))).mono ?_); rintro e w12 ⟨rfl, o12⟩; have h12 := h11.only o12 rfl rfl h11.rest; have b12 := b11.trans (o12.below hBb); have c36 := book_cell h12.blk 36 (by omega); rw [hG.same 36 (by omega) (by omega) (by omega), ht] at c36; have c37 := book_cell h12.blk 37 (by omega); have fr := free_of_obj h12.blk 37))
  have hb := h12.setN 37 (by omega) (.int .i64 (turn : Nat))
  have hbel := b12.trans ((OnlyB.book (OnlyB.refl h12.blk) (lt_of_obj h12.blk) 37 (.int .i64 (turn : Nat))).below hBb)
  go_end0
  exact ⟨rfl, _, E, F, X2, hb, hG.len, hG.bound, fun k h9 h10 h11 h37 => by rw [upd_ne h37]; exact hG.same k h9 h10 h11, hbel, by rw [upd_ne (by omega)]; exact hf11, upd_eq⟩
end Go.Proofs.Ytbgojhjlmlbfpaa
