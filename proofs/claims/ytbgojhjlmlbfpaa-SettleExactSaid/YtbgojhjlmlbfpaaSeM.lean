/- tallylaw13's helpers: firstOf, placeOf. -/
import Derived.Test.YtbgojhjlmlbfpaaSeL
import Derived.Test.YtbgojhjlmlbfpaaPlM
namespace Go.Proofs.Ytbgojhjlmlbfpaa
open Go.RowKit

def entV (e : Ent) : Value := .agg #[.int .i64 e.peer, .int .u64 e.num, .string e.name, .int .u64 e.amt]
def FirstRel (w : World) (Q : List Ent) (p : Int) (iv : Value) (wr : World) : Prop := ∃ k : Nat, iv = .int .i64 k ∧ k ≤ Q.length ∧ w = wr ∧ ∀ (j : Nat) (e : Ent), j < k → Q[j]? = some e → (e.peer == p) = false
set_option maxRecDepth 100000 in
set_option maxHeartbeats 1000000 in
theorem firstOf_any (w : World) (v : Value) (Q : List Ent) (p : Int) (hQ : HasQ w v Q) (hn : Q.length ≤ 9223372036854775807) :
    Calls Try.prog 31 #[v, .int .i64 p] w fun e w' => e = .returned (.tuple #[entV ((firstE Q p).getD zeroEnt), .bool (firstE Q p).isSome]) ∧ Below w.heap.size w w' := by
  have hbz : Below w.heap.size w (w.alloc (.cells #[.int .i64 0, .int .u64 0, .string ⟨#[]⟩, .int .u64 0] 104)) := (Below.refl _ _).alloc (Nat.le_refl _) _
  have hQ1 := hQ.below hbz
  obtain ⟨A, cp, rfl, _, hall⟩ := hQ1
  obtain ⟨N, hN⟩ : ∃ N, Q.length = N := ⟨_, rfl⟩
  rw [hN] at hn ⊢
  clear hQ
  go_enter Try.func31, Try.ntmps31
  go_wp2
  go_loopw [6] (fun iv wr => FirstRel (w.alloc (.cells #[.int .i64 0, .int .u64 0, .string ⟨#[]⟩, .int .u64 0] 104)) Q p iv wr) (fun iv _ => (N - intOf iv).toNat)
  case atStart => exact ⟨0, rfl, by omega, rfl, fun j e hj => by omega⟩
  case round =>
    obtain ⟨k, rfl, hk, rfl, hno⟩ := hrel
    rw [hN] at hk
    by_cases hkN : k < N
    · obtain ⟨e, he⟩ : ∃ e, Q[k]? = some e := ⟨Q[k]'(by omega), List.getElem?_eq_getElem _⟩
      obtain ⟨g, off, rfl, c0, c1, c2, c3⟩ := hall k e he
      have q1 : (k : Int) < (N : Int) := by omega
      clear hall
      cases hfe : (e.peer == p) with
      | true =>
        have hfs := find_some hno he hfe
        have hfE : firstE Q p = some e := by unfold firstE; rw [hfs]; exact he
        have HF := Lib.hid hfE
        clear hfE hfs
        go_wp2
        refine bodyPost_ret (v := .tuple #[.agg #[.int .i64 e.peer, .int .u64 e.num, .string e.name, .int .u64 e.amt], .bool true]) (by simp [results, Try.results31, go_sem]) rfl ⟨by rw [HF.out]; rfl, (Below.refl _ _).alloc (Nat.le_refl _) _⟩
      | false =>
        go_wp2
        refine ⟨⟨k + 1, by go_num, by omega, rfl, fun j e' hj hje => ?_⟩, by simp [intOf]; omega⟩
        by_cases hjk : j = k
        · subst hjk
          rw [he] at hje
          injection hje with hje
          subst hje
          exact hfe
        · exact hno j e' (by omega) hje
    · obtain rfl : k = N := by omega
      have hfn : Q.findIdx? (fun e => e.peer == p) = none := find_none fun j e hj => hno j e (by have := (List.getElem?_eq_some_iff.1 hj).1; omega) hj
      have hfE : firstE Q p = none := by unfold firstE; rw [hfn]; rfl
      have HF := Lib.hid hfE
      clear hfE hfn
      clear hall
      go_wp2
      refine bodyPost_ret (v := .tuple #[.agg #[.int .i64 0, .int .u64 0, .string ⟨#[]⟩, .int .u64 0], .bool false]) (by simp [results, Try.results31, go_sem]) rfl ⟨by rw [HF.out]; rfl, (Below.refl _ _).alloc (Nat.le_refl _) _⟩
/-- A node's place among a shard's copies. -/
def placeZ (L : List Int) (node : Int) : Int := idxZ (L.findIdx? (fun x => x == node))
def PlaceRel (w : World) (L : List Int) (node : Int) (iv : Value) (wr : World) : Prop := ∃ k : Nat, iv = .int .i64 k ∧ k ≤ L.length ∧ w = wr ∧ ∀ (j : Nat) (x : Int), j < k → L[j]? = some x → (x == node) = false
theorem findL_none {L : List Int} {node : Int} (h : ∀ (j : Nat) (x : Int), L[j]? = some x → (x == node) = false) : L.findIdx? (fun x => x == node) = none := by
  rw [List.findIdx?_eq_none_iff]
  intro x hx
  obtain ⟨j, hj⟩ := List.mem_iff_getElem?.1 hx
  exact h j x hj
theorem findL_some {L : List Int} {node : Int} {k : Nat} {x : Int} (h : ∀ (j : Nat) (x : Int), j < k → L[j]? = some x → (x == node) = false) (hk : L[k]? = some x) (hx : (x == node) = true) : L.findIdx? (fun x => x == node) = some k := by
  rw [List.findIdx?_eq_some_iff_getElem]
  obtain ⟨hlt, hke⟩ := List.getElem?_eq_some_iff.1 hk
  refine ⟨hlt, by rw [hke]; exact hx, fun j hj => ?_⟩
  have := h j L[j] hj (List.getElem?_eq_getElem (by omega))
  simp [this]
set_option maxRecDepth 100000 in
set_option maxHeartbeats 1000000 in
theorem placeOf_any (w : World) (n N cp cap k : Nat) (node : Int) (hc : ConfOk n N cp cap) (hk : k < 8) :
    Calls Try.prog 32 #[confV n N cp cap, .int .i64 (k : Nat), .int .i64 node] w fun e w' => e = .returned (.int .i64 (placeZ (copiesL k n cp) node)) ∧ Below w.heap.size w w' := by
  have hb1 : Below w.heap.size w (w.alloc (.cells #[.int .i64 (n : Nat), .int .i64 (N : Nat), .int .i64 (cp : Nat), .int .i64 1, .int .i64 16, .int .i64 (cap : Nat), .int .i64 64, .int .i64 100, .slice none 0 0] 79)) := (Below.refl _ _).alloc (Nat.le_refl _) _
  have hlen := copiesL_length (s := k) hc.hcp.2.1
  have HC := Lib.hid (refCopies_ok k n cp (w.alloc (.cells #[.int .i64 (n : Nat), .int .i64 (N : Nat), .int .i64 (cp : Nat), .int .i64 1, .int .i64 16, .int .i64 (cap : Nat), .int .i64 64, .int .i64 100, .slice none 0 0] 79)) hc.hn.1 hc.hn.2 hc.hcp.1 hc.hcp.2.1 hc.hcp.2.2.1 hc.hcp.2.2.2 hk)
  obtain ⟨L, hL⟩ : ∃ L, copiesL k n cp = L := ⟨_, rfl⟩
  rw [hL] at HC hlen ⊢
  have hcp9 : cp ≤ 9 := by have := hc.hcp; have := hc.hn; omega
  unfold confV
  go_enter Try.func32, Try.ntmps32
  go_wp2_with (go_at_call 50; (with_reducible refine (HC.out).mono ?_); rintro e w2 ⟨v, rfl, hv⟩; have hb2 := hv.below; obtain ⟨gg, cpv, rfl, hgg, _, ho⟩ := hv; have hO := One.ofRow ho)
  rw [hlen] at hO
  go_loopw [9] (fun iv wr => PlaceRel w2 L node iv wr) (fun iv _ => (cp - intOf iv).toNat)
  case atStart => exact ⟨0, rfl, by omega, rfl, fun j e hj => by omega⟩
  case round =>
    obtain ⟨i, rfl, hi, rfl, hno⟩ := hrel
    rw [hlen] at hi
    by_cases hiN : i < cp
    · obtain ⟨x, hx⟩ : ∃ x, L[i]? = some x := ⟨L[i]'(by omega), List.getElem?_eq_getElem _⟩
      have hcx := hO.cell (g := gg) rfl (k := i) (by omega)
      rw [lst_at (x := .int .i64 x) (by simp [hx])] at hcx
      have q1 : (i : Int) < (cp : Int) := by omega
      have HO := Lib.hid hO
      clear hO ho
      cases hfe : (x == node) with
      | true =>
        have hfs := findL_some hno hx hfe
        go_wp2
        go_ret
        unfold placeZ
        rw [hfs]
        exact ⟨rfl, hb1.trans (hb2.mono hb1.size)⟩
      | false =>
        go_wp2
        refine ⟨⟨i + 1, by go_num, by omega, rfl, fun j x' hj hje => ?_⟩, by simp [intOf]; omega⟩
        by_cases hji : j = i
        · subst hji
          rw [hx] at hje
          injection hje with hje
          subst hje
          exact hfe
        · exact hno j x' (by omega) hje
    · obtain rfl : i = cp := by omega
      have hfn : L.findIdx? (fun x => x == node) = none := findL_none fun j x hj => hno j x (by have := (List.getElem?_eq_some_iff.1 hj).1; omega) hj
      clear hO ho
      go_wp2
      go_ret
      unfold placeZ
      rw [hfn]
      exact ⟨rfl, hb1.trans (hb2.mono hb1.size)⟩
end Go.Proofs.Ytbgojhjlmlbfpaa
