/- The argument of SettleExact and SettleFresh opened: twelve numbers, a list of steps; each step's queue within the reach. -/
import Derived.Test.YtbgojhjlmlbfpaaSfT
import Derived.Test.YtbgojhjlmlbfpaaReadW
namespace Go.Proofs.Ytbgojhjlmlbfpaa
open Go.ChangeShapes Go.WideShapes Go.ChangeAt Go.RowKit

theorem list4 {α : Type} {l : List α} (h : l.length = 4) : ∃ a b c d, l = [a, b, c, d] := by
  match l, h with
  | [a, b, c, d], _ => exact ⟨a, b, c, d, rfl⟩
theorem list5 {α : Type} {l : List α} (h : l.length = 5) : ∃ a b c d e, l = [a, b, c, d, e] := by
  match l, h with
  | [a, b, c, d, e], _ => exact ⟨a, b, c, d, e, rfl⟩
theorem list13 {α : Type} {l : List α} (h : l.length = 13) : ∃ a b c d e f g i j k m n o, l = [a, b, c, d, e, f, g, i, j, k, m, n, o] := by
  match l, h with
  | [a, b, c, d, e, f, g, i, j, k, m, n, o], _ => exact ⟨a, b, c, d, e, f, g, i, j, k, m, n, o, rfl⟩
theorem choose_list {α : Type} {p : Nat → α → Prop} : ∀ (n : Nat), (∀ i, i < n → ∃ v, p i v) → ∃ l : List α, l.length = n ∧ ∀ k e, l[k]? = some e → p k e
  | 0, _ => ⟨[], rfl, fun k e h => by simp at h⟩
  | n + 1, h => by
    obtain ⟨l, hl, hp⟩ := choose_list n (fun i hi => h i (by omega))
    obtain ⟨v, hv⟩ := h n (by omega)
    refine ⟨l ++ [v], by simp [hl], fun k e hk => ?_⟩
    by_cases hkl : k < l.length
    · rw [List.getElem?_append_left hkl] at hk
      exact hp k e hk
    · rw [List.getElem?_append_right (by omega)] at hk
      have hk0 : k - l.length = 0 := by
        rcases Nat.eq_zero_or_pos (k - l.length) with h | h
        · exact h
        · rw [List.getElem?_eq_none (by simp; omega)] at hk; cases hk
      rw [hk0] at hk
      simp at hk
      subst hk
      obtain rfl : k = n := by omega
      exact hv
theorem ent_open {W : World} {es : List Value} (h : Tr Try.prog W 104 es) : ∃ e : Ent, es = [.int .i64 e.peer, .int .u64 e.num, .string e.name, .int .u64 e.amt] := by
  have hl := (Tr.struct Try.underlying104 h).1
  obtain ⟨x0, x1, x2, x3, rfl⟩ := list4 (hl.trans (by kernel_rfl : _ = 4))
  have h0 := Tr.field Try.underlying104 h 0 rfl (n := 1) (by kernel_rfl)
  have h1 := Tr.field Try.underlying104 h 1 rfl (n := 1) (by kernel_rfl)
  have h2 := Tr.field Try.underlying104 h 2 rfl (n := 1) (by kernel_rfl)
  have h3 := Tr.field Try.underlying104 h 3 rfl (n := 1) (by kernel_rfl)
  obtain ⟨a, e0, _⟩ := h0.int Try.underlying3
  obtain ⟨b, e1, _⟩ := h1.int Try.underlying95
  obtain ⟨c, e2, _⟩ := h2.string Try.underlying9
  obtain ⟨d, e3, _⟩ := h3.int Try.underlying95
  simp at e0 e1 e2 e3
  subst e0 e1 e2 e3
  exact ⟨⟨a, b, c, d⟩, rfl⟩
theorem ents_in {W : World} {cs : List Value} (h : TrW Try.prog W 80 cs) : ∃ (A : Option Addr) (n c : Nat) (Q : List Ent), cs = [.slice A n c] ∧ Q.length = n ∧ Q.length ≤ 3518437208780 ∧ HasQ W (.slice A n c) Q ∧ ∀ a, 0 < n → A = some a → a.block < W.heap.size := by
  obtain ⟨A, n, c, rfl, h1, h2, hw, hnil, h3⟩ := TrW.slice Try.underlying80 (size := 4) (by kernel_rfl) (by omega) h
  rw [(by kernel_rfl : Try.prog.bytesOf 104 = 40)] at hw
  have hrb : reachBytes = 140737488351232 := rfl
  obtain ⟨Q, hQ, hp⟩ := choose_list (p := fun k (e : Ent) => ∃ g off, A = some ⟨g, off, none⟩ ∧ W.cell? ⟨g, off + k * 4, none⟩ = some (.int .i64 e.peer) ∧ W.cell? ⟨g, off + k * 4 + 1, none⟩ = some (.int .u64 e.num) ∧ W.cell? ⟨g, off + k * 4 + 2, none⟩ = some (.string e.name) ∧ W.cell? ⟨g, off + k * 4 + 3, none⟩ = some (.int .u64 e.amt)) n (fun i hi => by
    obtain ⟨b, off, hA, es, hes, h4, h5, h6⟩ := h3 i hi
    obtain ⟨e, rfl⟩ := ent_open h6.tr
    exact ⟨e, b, off, hA, h5 0 (by simp), h5 1 (by simp), h5 2 (by simp), h5 3 (by simp)⟩)
  refine ⟨A, n, c, Q, rfl, hQ, by omega, ⟨A, c, by rw [hQ], hnil, fun k e hk => ?_⟩, fun a hn ha => ?_⟩
  · obtain ⟨g, off, k1, k2, k3, k4, k5⟩ := hp k e hk
    exact ⟨g, off, k1, k2, k3, k4, k5⟩
  · obtain ⟨b, off, hA, es, hes, h4, h5, h6⟩ := h3 0 hn
    rw [hA] at ha
    injection ha with ha
    subst ha
    exact h4
theorem op13_open {W : World} {es : List Value} (h : TrW Try.prog W 160 es) : ∃ (kd wh pe nu : Int) (A : Option Addr) (n c : Nat) (Q : List Ent), es = [.int .i64 kd, .int .i64 wh, .slice A n c, .int .i64 pe, .int .u64 nu] ∧ Q.length = n ∧ Q.length ≤ 3518437208780 ∧ HasQ W (.slice A n c) Q ∧ ∀ a, 0 < n → A = some a → a.block < W.heap.size := by
  have hl := (TrW.struct Try.underlying160 h).1
  obtain ⟨x0, x1, x2, x3, x4, rfl⟩ := list5 (hl.trans (by kernel_rfl : _ = 5))
  have h0 := TrW.field Try.underlying160 h 0 rfl (n := 1) (by kernel_rfl)
  have h1 := TrW.field Try.underlying160 h 1 rfl (n := 1) (by kernel_rfl)
  have h2 := TrW.field Try.underlying160 h 2 rfl (n := 1) (by kernel_rfl)
  have h3 := TrW.field Try.underlying160 h 3 rfl (n := 1) (by kernel_rfl)
  have h4 := TrW.field Try.underlying160 h 4 rfl (n := 1) (by kernel_rfl)
  obtain ⟨a, e0, _⟩ := h0.tr.int Try.underlying3
  obtain ⟨b, e1, _⟩ := h1.tr.int Try.underlying3
  obtain ⟨A, n, c, Q, e2, i2⟩ := ents_in h2
  obtain ⟨d, e3, _⟩ := h3.tr.int Try.underlying3
  obtain ⟨e, e4, _⟩ := h4.tr.int Try.underlying95
  simp at e0 e1 e2 e3 e4
  subst e0 e1 e2 e3 e4
  exact ⟨a, b, d, e, A, n, c, Q, rfl, i2⟩
set_option maxRecDepth 100000 in
theorem script13_open {W : World} {cs : List Value} (h : TrW Try.prog W 115 cs) : ∃ (x0 x1 x2 x3 x4 x5 x6 x7 x8 x9 x10 x11 : Int) (A : Option Addr) (n cap : Nat), cs = (scriptV x0 x1 x2 x3 x4 x5 x6 x7 x8 x9 x10 x11 A n cap).toList ∧ n ≤ 9223372036854775807 ∧ OpsAt W A n := by
  have hl := (TrW.struct Try.underlying115 h).1
  obtain ⟨c0, c1, c2, c3, c4, c5, c6, c7, c8, c9, c10, c11, c12, rfl⟩ := list13 (hl.trans (by kernel_rfl : _ = 13))
  have two : ∀ (xs : List Value) (i off : Nat), Tr Try.prog W 112 xs → ∃ a b : Int, xs.take 1 = [.int .i64 a] ∧ (xs.drop 1).take 1 = [.int .i64 b] := fun xs i off hx => by
    have k0 := (Tr.array Try.underlying112 hx).2 0 (by omega)
    have k1 := (Tr.array Try.underlying112 hx).2 1 (by omega)
    rw [(by kernel_rfl : Try.prog.cellsOf 3 = 1)] at k0 k1
    obtain ⟨a, e0, _⟩ := k0.int Try.underlying3
    obtain ⟨b, e1, _⟩ := k1.int Try.underlying3
    exact ⟨a, b, by simpa using e0, by simpa using e1⟩
  obtain ⟨x0, x1, e0, e1⟩ := two _ 0 0 (TrW.field Try.underlying115 h 0 rfl (n := 2) (by kernel_rfl)).tr
  obtain ⟨x2, x3, e2, e3⟩ := two _ 0 0 (TrW.field Try.underlying115 h 1 rfl (n := 2) (by kernel_rfl)).tr
  obtain ⟨x4, x5, e4, e5⟩ := two _ 0 0 (TrW.field Try.underlying115 h 2 rfl (n := 2) (by kernel_rfl)).tr
  obtain ⟨x6, x7, e6, e7⟩ := two _ 0 0 (TrW.field Try.underlying115 h 3 rfl (n := 2) (by kernel_rfl)).tr
  obtain ⟨x8, x9, e8, e9⟩ := two _ 0 0 (TrW.field Try.underlying115 h 4 rfl (n := 2) (by kernel_rfl)).tr
  obtain ⟨x10, x11, e10, e11⟩ := two _ 0 0 (TrW.field Try.underlying115 h 5 rfl (n := 2) (by kernel_rfl)).tr
  obtain ⟨A, n, cap, e12, hn, hc, _, _, hall⟩ := TrW.slice Try.underlying113 (size := 5) (by kernel_rfl) (by omega) (TrW.field Try.underlying115 h 6 rfl (n := 1) (by kernel_rfl))
  simp at e0 e1 e2 e3 e4 e5 e6 e7 e8 e9 e10 e11 e12
  subst e0 e1 e2 e3 e4 e5 e6 e7 e8 e9 e10 e11 e12
  unfold maxLen at hc
  refine ⟨x0, x1, x2, x3, x4, x5, x6, x7, x8, x9, x10, x11, A, n, cap, rfl, by omega, fun k hk => ?_⟩
  obtain ⟨b, off, hA, es, hes, hb, hcell, ht⟩ := hall k hk
  obtain ⟨kd, wh, pe, nu, Aq, nq, cq, Q, rfl, i1, i2, i3, i4⟩ := op13_open ht
  exact ⟨b, off, kd, wh, pe, nu, Aq, nq, cq, Q, hA, hb, hcell 0 (by simp), hcell 1 (by simp), hcell 2 (by simp), hcell 3 (by simp), hcell 4 (by simp), i1, i2, i3, i4⟩
theorem OpsAt.below {w w' : World} {A : Option Addr} {n : Nat} (h : OpsAt w A n) (hb : Below w.heap.size w w') : OpsAt w' A n := fun k hk => by
  obtain ⟨b, off, kd, wh, pe, nu, Aq, nq, cq, Q, h1, h2, c0, c1, c2, c3, c4, h3, h4, h5, h6⟩ := h k hk
  exact ⟨b, off, kd, wh, pe, nu, Aq, nq, cq, Q, h1, Nat.lt_of_lt_of_le h2 hb.size, cellKeep hb c0, cellKeep hb c1, cellKeep hb c2, cellKeep hb c3, cellKeep hb c4, h3, h4, h5.below hb, fun a h0 ha => Nat.lt_of_lt_of_le (h6 a h0 ha) hb.size⟩
set_option maxRecDepth 100000 in
theorem law_SettleExact {H : Type} (enc : TypeId × Value → H) (W : World) {base : Nat} (v : Value) (d : DataW H) (ps : List MemPlace)
    (hok : Value.okWide Try.prog W .any base 115 v) (h : DataW.Trod enc Try.prog W 0 (fun _ => true) true 115 v d ps)
    (hsz0 : (DataW.weightsEach Try.prog [115] [d]).all (· ≤ reachBytes) = true) :
    Calls Try.prog 9 #[v] W fun e W' => e = .returned (.bool true) ∧ Below W.heap.size W W' := by
  obtain ⟨cs, rfl, hsz⟩ := okWide_struct Try.underlying115 hok
  have hT := TrW.of h hsz0
  obtain ⟨cs⟩ := cs
  simp only [Value.cells] at hT
  obtain ⟨x0, x1, x2, x3, x4, x5, x6, x7, x8, x9, x10, x11, A, n, cap, hcs, hn, hA⟩ := script13_open hT
  obtain rfl : cs = (scriptV x0 x1 x2 x3 x4 x5 x6 x7 x8 x9 x10 x11 A n cap).toList := hcs
  have hb1 : Below W.heap.size W (W.alloc (.cells (scriptV x0 x1 x2 x3 x4 x5 x6 x7 x8 x9 x10 x11 A n cap) 115 (0, 0))) := (Below.refl _ _).alloc (Nat.le_refl _) _
  have hw := exact_walk x0 x1 x2 x3 x4 x5 x6 x7 x8 x9 x10 x11 A n cap _ (hA.below hb1) hn
  unfold scriptV at hw hb1
  have HW := Lib.hid hw
  clear hw hA hT hok h hsz0 hsz
  show Calls Try.prog 9 #[.agg (scriptV x0 x1 x2 x3 x4 x5 x6 x7 x8 x9 x10 x11 A n cap)] W _
  unfold scriptV
  go_enter Try.func9, Try.ntmps9
  go_wp2_with (go_at_call 37; (with_reducible refine HW.out.mono ?_); rintro e w2 ⟨rfl, hb2⟩)
  go_ret
  exact ⟨rfl, hb1.trans (hb2.mono hb1.size)⟩
end Go.Proofs.Ytbgojhjlmlbfpaa
