/- SettleSends: how its memory lies, what keeps it, its stores. -/
import Derived.Test.YtbgojhjlmlbfpaaSeQ
namespace Go.Proofs.Ytbgojhjlmlbfpaa
open Go.RowKit

structure SendAt (w wr : World) (ρ : Nat → Nat) (bc lb sb S W wc n N cp cap sh i : Nat) (Q : List Ent) (qv sq : Value) (ws : Nat → Way) (row : Nat → Nat) (la : Nat → Nat) (st : Nat → Nat → Bool) : Prop where
  conf : Objr wr ρ 1 bc (.cells (confArr n N cp cap) 79 (0, 0))
  q : One wr w.heap.size 104 4 qv Q.length (cQ Q)
  qr : ∀ g, qv.ownBlock = some g → ρ g = 2
  set : SetAt wr w.heap.size ρ 40 S 0 sh N ws (.slice (some ⟨W, 0, none⟩) N wc) sq Q
  last : Objr wr ρ 3 lb (cellsObj 3 N (fun k => .int .i64 (la k : Nat)))
  sent : Objr wr ρ 4 sb (cellsObj 72 N (fun k => if k < i then .slice (some ⟨row k, 0, none⟩) cp cp else .slice none 0 0))
  rows : ∀ k, k < i → Objr wr ρ (5 + k) (row k) (cellsObj 4 cp (fun j => .bool (st k j)))
  free : Free wr ρ
  bel : Below w.heap.size w wr
  lo : w.heap.size ≤ lb ∧ w.heap.size ≤ sb ∧ ∀ k, k < i → w.heap.size ≤ row k
  num : N ≤ 8 ∧ i ≤ N
theorem SendAt.keep {R : Nat → Prop} {w wr w' : World} {ρ ρ' : Nat → Nat} {bc lb sb S W wc n N cp cap sh i : Nat} {Q : List Ent} {qv sq : Value} {ws : Nat → Way} {row la : Nat → Nat} {st : Nat → Nat → Bool} (h : SendAt w wr ρ bc lb sb S W wc n N cp cap sh i Q qv sq ws row la st)
    (hK : Keeps R wr ρ w' ρ') (hf : Free w' ρ') (hb : Below w.heap.size wr w') (hR : ∀ r, 1 ≤ r → r < 68 → ¬ R r) : SendAt w w' ρ' bc lb sb S W wc n N cp cap sh i Q qv sq ws row la st := by
  obtain ⟨a1, a2⟩ := OneN.keep h.q h.qr hK (hR _ (by omega) (by omega))
  have hN := h.num
  exact ⟨h.conf.keep hK (hR _ (by omega) (by omega)), a1, a2, h.set.keep hK (fun r h1 h2 _ => hR _ (by omega) (by omega)), h.last.keep hK (hR _ (by omega) (by omega)), h.sent.keep hK (hR _ (by omega) (by omega)), fun k hk => (h.rows k hk).keep hK (hR _ (by omega) (by omega)), hf, h.bel.trans hb, h.lo, hN⟩
/-- A new Settle behind a Tick or a Look. -/
theorem SendAt.sets {w wr w' : World} {ρ ρ' : Nat → Nat} {bc lb sb S W wc n N cp cap sh i : Nat} {Q : List Ent} {qv sq sq' : Value} {ws ws' : Nat → Way} {row la : Nat → Nat} {st : Nat → Nat → Bool} (h : SendAt w wr ρ bc lb sb S W wc n N cp cap sh i Q qv sq ws row la st)
    (hs : SetAt w' w.heap.size ρ' 40 S 0 sh N ws' (.slice (some ⟨W, 0, none⟩) N wc) sq' Q) (hK : Keeps (fun r => 40 + 1 ≤ r ∧ r < 40 + 28) wr ρ w' ρ') (hf : Free w' ρ') (hb : Below w.heap.size wr w') : SendAt w w' ρ' bc lb sb S W wc n N cp cap sh i Q qv sq' ws' row la st := by
  obtain ⟨a1, a2⟩ := OneN.keep h.q h.qr hK (by omega)
  have hN := h.num
  exact ⟨h.conf.keep hK (by omega), a1, a2, hs, h.last.keep hK (by omega), h.sent.keep hK (by omega), fun k hk => (h.rows k hk).keep hK (by omega), hf, h.bel.trans hb, h.lo, hN⟩
theorem SendAt.ne {w wr : World} {ρ : Nat → Nat} {bc lb sb S W wc n N cp cap sh i : Nat} {Q : List Ent} {qv sq : Value} {ws : Nat → Way} {row la : Nat → Nat} {st : Nat → Nat → Bool} (h : SendAt w wr ρ bc lb sb S W wc n N cp cap sh i Q qv sq ws row la st) : N ≤ 8 := h.num.1
theorem SendAt.putLast {w wr : World} {ρ : Nat → Nat} {bc lb sb S W wc n N cp cap sh i : Nat} {Q : List Ent} {qv sq : Value} {ws : Nat → Way} {row la : Nat → Nat} {st : Nat → Nat → Bool} (h : SendAt w wr ρ bc lb sb S W wc n N cp cap sh i Q qv sq ws row la st) (k t : Nat) :
    SendAt w (wr.setCell ⟨lb, k, none⟩ (.int .i64 (t : Nat))) ρ bc lb sb S W wc n N cp cap sh i Q qv sq ws row (fun x => if x = k then t else la x) st ∧ Keeps (fun r => r = 3) wr ρ (wr.setCell ⟨lb, k, none⟩ (.int .i64 (t : Nat))) ρ := by
  have ho : OnlyB wr (wr.setCell ⟨lb, k, none⟩ (.int .i64 (t : Nat))) lb _ := OnlyB.objSet h.last.1 k (.int .i64 (t : Nat))
  have hK : Keeps (fun r => r = 3) wr ρ (wr.setCell ⟨lb, k, none⟩ (.int .i64 (t : Nat))) ρ := Keeps.only ρ ho h.last.2
  obtain ⟨a1, a2⟩ := OneN.keep h.q h.qr hK (by omega)
  have hN := h.num
  have hl := ho.at_ (lt_of_obj h.last.1)
  have he : setc (fun k => Value.int .i64 (la k : Nat)) k (.int .i64 (t : Nat)) = fun x => Value.int .i64 ((if x = k then t else la x : Nat) : Nat) := by
    funext x
    by_cases hx : x = k
    · subst hx
      rw [setc_eq, if_pos rfl]
    · rw [setc_ne hx, if_neg hx]
  rw [he] at hl
  exact ⟨⟨h.conf.keep hK (by omega), a1, a2, h.set.keep hK (fun r h1 h2 _ => by omega), ⟨hl, h.last.2⟩, h.sent.keep hK (by omega), fun k hk => (h.rows k hk).keep hK (by omega), h.free.le (Nat.le_of_eq ho.size.symm), h.bel.trans (ho.below h.lo.1), h.lo, hN⟩, hK⟩
theorem SendAt.putRow {w wr : World} {ρ : Nat → Nat} {bc lb sb S W wc n N cp cap sh i : Nat} {Q : List Ent} {qv sq : Value} {ws : Nat → Way} {row la : Nat → Nat} {st : Nat → Nat → Bool} (h : SendAt w wr ρ bc lb sb S W wc n N cp cap sh i Q qv sq ws row la st) (k j : Nat) (hk : k < i) :
    SendAt w (wr.setCell ⟨row k, j, none⟩ (.bool true)) ρ bc lb sb S W wc n N cp cap sh i Q qv sq ws row la (fun x y => st x y || (x == k && y == j)) ∧ Keeps (fun r => 5 ≤ r ∧ r ≤ 12) wr ρ (wr.setCell ⟨row k, j, none⟩ (.bool true)) ρ := by
  have hN := h.num
  have ho : OnlyB wr (wr.setCell ⟨row k, j, none⟩ (.bool true)) (row k) _ := OnlyB.objSet (h.rows k hk).1 j (.bool true)
  have hK : Keeps (fun r => r = 5 + k) wr ρ (wr.setCell ⟨row k, j, none⟩ (.bool true)) ρ := Keeps.only ρ ho (h.rows k hk).2
  obtain ⟨a1, a2⟩ := OneN.keep h.q h.qr hK (by omega)
  have hl := ho.at_ (lt_of_obj (h.rows k hk).1)
  refine ⟨⟨h.conf.keep hK (by omega), a1, a2, h.set.keep hK (fun r h1 h2 _ => by omega), h.last.keep hK (by omega), h.sent.keep hK (by omega), fun x hx => ?_, h.free.le (Nat.le_of_eq ho.size.symm), h.bel.trans (ho.below (h.lo.2.2 k hk)), h.lo, hN⟩, hK.mono (fun r hr => by omega)⟩
  by_cases hxk : x = k
  · subst hxk
    have he : setc (fun y => Value.bool (st x y)) j (.bool true) = fun y => Value.bool (st x y || (x == x && y == j)) := by
      funext y
      by_cases hy : y = j
      · subst hy
        rw [setc_eq]
        simp
      · have : (y == j) = false := by simpa using hy
        rw [setc_ne hy, this]
        simp
    rw [he] at hl
    exact ⟨hl, (h.rows x hk).2⟩
  · have : (x == k) = false := by simpa using hxk
    simp only [this, Bool.false_and, Bool.or_false]
    exact (h.rows x hx).keep hK (by omega)
/-- A row more. -/
theorem SendAt.addRow {w wr : World} {ρ : Nat → Nat} {bc lb sb S W wc n N cp cap sh i : Nat} {Q : List Ent} {qv sq : Value} {ws : Nat → Way} {row la : Nat → Nat} (h : SendAt w wr ρ bc lb sb S W wc n N cp cap sh i Q qv sq ws row la (fun _ _ => false)) (hi : i < N) :
    SendAt w ((wr.alloc (cellsObj 4 cp (fun _ => .bool false))).setCell ⟨sb, i, none⟩ (.slice (some ⟨wr.heap.size, 0, none⟩) cp cp)) (lab ρ wr.heap.size (5 + i)) bc lb sb S W wc n N cp cap sh (i + 1) Q qv sq ws (fun k => if k = i then wr.heap.size else row k) la (fun _ _ => false) := by
  have hN := h.num
  have hbase : w.heap.size ≤ wr.heap.size := h.bel.size
  have hb1 : Below wr.heap.size wr (wr.alloc (cellsObj 4 cp (fun _ => .bool false))) := (Below.refl _ _).alloc (Nat.le_refl _) _
  have hz : (wr.alloc (cellsObj 4 cp (fun _ => .bool false))).heap.size = wr.heap.size + 1 := by simp
  have K1 : Keeps (fun _ => False) wr ρ (wr.alloc (cellsObj 4 cp (fun _ => .bool false))) (lab ρ wr.heap.size (5 + i)) := ⟨hb1.size, fun k hk => ⟨lab_ne (by omega), fun _ => hb1.block k hk⟩⟩
  have F1 : Free (wr.alloc (cellsObj 4 cp (fun _ => .bool false))) (lab ρ wr.heap.size (5 + i)) := h.free.lab hb1.size (by omega) _
  have A1 := h.keep K1 F1 (hb1.mono hbase) (fun _ _ _ => id)
  have N1 : Objr (wr.alloc (cellsObj 4 cp (fun _ => .bool false))) (lab ρ wr.heap.size (5 + i)) (5 + i) wr.heap.size (cellsObj 4 cp (fun _ => .bool false)) := ⟨heap_alloc_new wr _, lab_eq⟩
  have hlt : ∀ k, k < i → row k < wr.heap.size := fun k hk => lt_of_obj (h.rows k hk).1
  generalize wr.alloc (cellsObj 4 cp (fun _ => .bool false)) = w1 at A1 N1 F1 ⊢
  generalize lab ρ wr.heap.size (5 + i) = ρ1 at A1 N1 F1 ⊢
  obtain ⟨R, hR⟩ : ∃ R, wr.heap.size = R := ⟨_, rfl⟩
  rw [hR] at N1 hlt hbase ⊢
  have ho : OnlyB w1 (w1.setCell ⟨sb, i, none⟩ (.slice (some ⟨R, 0, none⟩) cp cp)) sb _ := OnlyB.objSet A1.sent.1 i (.slice (some ⟨R, 0, none⟩) cp cp)
  have hK : Keeps (fun r => r = 4) w1 ρ1 (w1.setCell ⟨sb, i, none⟩ (.slice (some ⟨R, 0, none⟩) cp cp)) ρ1 := Keeps.only ρ1 ho A1.sent.2
  obtain ⟨a1, a2⟩ := OneN.keep A1.q A1.qr hK (by omega)
  have hl := ho.at_ (lt_of_obj A1.sent.1)
  have he : setc (fun k => if k < i then Value.slice (some ⟨row k, 0, none⟩) cp cp else .slice none 0 0) i (.slice (some ⟨R, 0, none⟩) cp cp) = fun k => if k < i + 1 then Value.slice (some ⟨if k = i then R else row k, 0, none⟩) cp cp else .slice none 0 0 := by
    funext k
    by_cases hk : k = i
    · subst hk
      rw [setc_eq, if_pos (by omega), if_pos rfl]
    · rw [setc_ne hk, if_neg hk]
      by_cases hlt : k < i
      · rw [if_pos hlt, if_pos (by omega)]
      · rw [if_neg hlt, if_neg (by omega)]
  rw [he] at hl
  refine ⟨A1.conf.keep hK (by omega), a1, a2, A1.set.keep hK (fun r h1 h2 _ => by omega), A1.last.keep hK (by omega), ⟨hl, A1.sent.2⟩, fun k hk => ?_, A1.free.le (Nat.le_of_eq ho.size.symm), A1.bel.trans (ho.below A1.lo.2.1), ⟨A1.lo.1, A1.lo.2.1, fun k hk => ?_⟩, ⟨hN.1, by omega⟩⟩
  · by_cases hki : k = i
    · subst hki
      rw [if_pos rfl]
      exact N1.keep hK (by omega)
    · rw [if_neg hki]
      exact (A1.rows k (by omega)).keep hK (by omega)
  · by_cases hki : k = i
    · rw [if_pos hki]
      exact hbase
    · rw [if_neg hki]
      exact A1.lo.2.2 k (by omega)
/-- The messages at hand. -/
structure MsgsAt (wr : World) (base : Nat) (ρ : Nat → Nat) (mv : Value) (ms : List SMsg) : Prop where
  one : One wr base 102 22 mv ms.length (cM ms)
  rol : ∀ g, mv.ownBlock = some g → ρ g = 13
theorem MsgsAt.keep {R : Nat → Prop} {wr w' : World} {base : Nat} {ρ ρ' : Nat → Nat} {mv : Value} {ms : List SMsg} (h : MsgsAt wr base ρ mv ms) (hK : Keeps R wr ρ w' ρ') (hR : ¬ R 13) : MsgsAt w' base ρ' mv ms := by
  obtain ⟨a1, a2⟩ := OneN.keep h.one h.rol hK hR
  exact ⟨a1, a2⟩
/-- A block of role x gets a role of its own. -/
def Turns (x : Nat) (ρ ρ' : Nat → Nat) : Prop := ∀ k, ρ k ≠ x → ρ' k = ρ k
theorem Objr.turns {w : World} {r B x : Nat} {ρ ρ' : Nat → Nat} {o : Obj} (h : Objr w ρ r B o) (ht : Turns x ρ ρ') (hr : r ≠ x) : Objr w ρ' r B o := ⟨h.1, (ht B (by rw [h.2]; exact hr)).trans h.2⟩
theorem Lst.turns {w : World} {base r n x : Nat} {ρ ρ' : Nat → Nat} {e : TypeId} {v : Value} {c : Nat → Value} (h : Lst w base ρ r e v n c) (ht : Turns x ρ ρ') (hr : r ≠ x) : Lst w base ρ' r e v n c := ⟨h.1, fun g hg => (ht g (by rw [h.2 g hg]; exact hr)).trans (h.2 g hg)⟩
theorem role_turns {v : Value} {r x : Nat} {ρ ρ' : Nat → Nat} (h : ∀ g, v.ownBlock = some g → ρ g = r) (ht : Turns x ρ ρ') (hr : r ≠ x) : ∀ g, v.ownBlock = some g → ρ' g = r := fun g hg => (ht g (by rw [h g hg]; exact hr)).trans (h g hg)
theorem SetAt.turns {w : World} {base r0 S N x : Nat} {ρ ρ' : Nat → Nat} {node shard : Int} {ws : Nat → Way} {wv qv : Value} {Q : List Ent} (h : SetAt w base ρ r0 S node shard N ws wv qv Q) (ht : Turns x ρ ρ') (hx : r0 + 4 < x ∧ x < r0 + 20) : SetAt w base ρ' r0 S node shard N ws wv qv Q :=
  ⟨h.obj.turns ht (by omega), h.row, role_turns h.rowr ht (by omega), h.que, role_turns h.quer ht (by omega), fun i hi => (h.pace i hi).turns ht (by omega), fun i hi => (h.cop i hi).turns ht (by omega), h.lo, h.num⟩
theorem SendAt.turns {w wr : World} {ρ ρ' : Nat → Nat} {bc lb sb S W wc n N cp cap sh i : Nat} {Q : List Ent} {qv sq : Value} {ws : Nat → Way} {row la : Nat → Nat} {st : Nat → Nat → Bool} (h : SendAt w wr ρ bc lb sb S W wc n N cp cap sh i Q qv sq ws row la st)
    (ht : Turns 47 ρ ρ') (hf : Free wr ρ') : SendAt w wr ρ' bc lb sb S W wc n N cp cap sh i Q qv sq ws row la st := by
  have hN := h.num
  exact ⟨h.conf.turns ht (by omega), h.q, role_turns h.qr ht (by omega), h.set.turns ht (by omega), h.last.turns ht (by omega), h.sent.turns ht (by omega), fun k hk => (h.rows k hk).turns ht (by omega), hf, h.bel, h.lo, h.num⟩
theorem SendAt.msgs {w wr : World} {ρ : Nat → Nat} {bc lb sb S W wc n N cp cap sh i : Nat} {Q : List Ent} {qv sq mv : Value} {ws : Nat → Way} {row la : Nat → Nat} {st : Nat → Nat → Bool} {ms : List SMsg} (h : SendAt w wr ρ bc lb sb S W wc n N cp cap sh i Q qv sq ws row la st)
    (ho : One wr w.heap.size 102 22 mv ms.length (cM ms)) (hr : ∀ g, mv.ownBlock = some g → ρ g = 40 + 7) : ∃ ρ', SendAt w wr ρ' bc lb sb S W wc n N cp cap sh i Q qv sq ws row la st ∧ MsgsAt wr w.heap.size ρ' mv ms := by
  cases hg : mv.ownBlock with
  | none => exact ⟨ρ, h, ho, fun g h => by rw [hg] at h; cases h⟩
  | some g =>
    have hb := ho.block hg
    have ht : Turns 47 ρ (lab ρ g 13) := fun k hk => lab_ne (fun e => hk (by rw [e]; exact hr g hg))
    refine ⟨lab ρ g 13, h.turns ht (h.free.lab (Nat.le_refl _) hb.2 _), ho, fun g' h => ?_⟩
    rw [hg] at h
    injection h with h
    subst h
    exact lab_eq
end Go.Proofs.Ytbgojhjlmlbfpaa
