/- SettleDrains: how its memory lies, what keeps it, its stores. -/
import Derived.Test.YtbgojhjlmlbfpaaSeW
namespace Go.Proofs.Ytbgojhjlmlbfpaa
open Go.RowKit

/-- The law's blocks: the configuration (role 1), the queue (2), its argument (3), the marks (4), the Settle (from 40 on). -/
structure DrainAt (w wr : World) (ρ : Nat → Nat) (bc pb mb S W wc n N cp cap sh : Nat) (po : Obj) (Q Qs : List Ent) (qv sq : Value) (ws : Nat → Way) (mk : Int → Nat) : Prop where
  conf : Objr wr ρ 1 bc (.cells (confArr n N cp cap) 79 (0, 0))
  load : Objr wr ρ 3 pb po
  q : One wr w.heap.size 104 4 qv Q.length (cQ Q)
  qr : ∀ g, qv.ownBlock = some g → ρ g = 2
  set : SetAt wr w.heap.size ρ 40 S 0 sh N ws (.slice (some ⟨W, 0, none⟩) N wc) sq Qs
  marks : Objr wr ρ 4 mb (cellsObj 95 N (fun j => .int .u64 (mk (j : Nat) : Nat)))
  free : Free wr ρ
  bel : Below w.heap.size w wr
  lo : w.heap.size ≤ mb
section
variable {w wr w' : World} {ρ ρ' : Nat → Nat} {bc pb mb S W wc n N cp cap sh : Nat} {po : Obj} {Q Qs : List Ent} {qv sq : Value} {ws : Nat → Way} {mk : Int → Nat}
theorem DrainAt.keep {R : Nat → Prop} (h : DrainAt w wr ρ bc pb mb S W wc n N cp cap sh po Q Qs qv sq ws mk)
    (hK : Keeps R wr ρ w' ρ') (hf : Free w' ρ') (hb : Below w.heap.size wr w') (hR : ∀ r, 1 ≤ r → r < 68 → ¬ R r) : DrainAt w w' ρ' bc pb mb S W wc n N cp cap sh po Q Qs qv sq ws mk := by
  obtain ⟨a1, a2⟩ := OneN.keep h.q h.qr hK (hR _ (by omega) (by omega))
  exact ⟨h.conf.keep hK (hR _ (by omega) (by omega)), h.load.keep hK (hR _ (by omega) (by omega)), a1, a2, h.set.keep hK (fun r h1 h2 _ => hR _ (by omega) (by omega)), h.marks.keep hK (hR _ (by omega) (by omega)), hf, h.bel.trans hb, h.lo⟩
theorem DrainAt.below (h : DrainAt w wr ρ bc pb mb S W wc n N cp cap sh po Q Qs qv sq ws mk) (hb : Below wr.heap.size wr w') : DrainAt w w' ρ bc pb mb S W wc n N cp cap sh po Q Qs qv sq ws mk :=
  have hK := Keeps.below (fun _ => False) ρ hb
  h.keep hK (h.free.le hK.1) (hb.mono h.bel.size) (fun _ _ _ => id)
/-- The Settle behind a Tick or a Look. -/
theorem DrainAt.sets {sq' : Value} {ws' : Nat → Way} {Qs' : List Ent} (h : DrainAt w wr ρ bc pb mb S W wc n N cp cap sh po Q Qs qv sq ws mk)
    (hs : SetAt w' w.heap.size ρ' 40 S 0 sh N ws' (.slice (some ⟨W, 0, none⟩) N wc) sq' Qs') (hK : Keeps (fun r => 40 + 1 ≤ r ∧ r < 40 + 28) wr ρ w' ρ') (hf : Free w' ρ') (hb : Below w.heap.size wr w') : DrainAt w w' ρ' bc pb mb S W wc n N cp cap sh po Q Qs' qv sq' ws' mk := by
  obtain ⟨a1, a2⟩ := OneN.keep h.q h.qr hK (by omega)
  exact ⟨h.conf.keep hK (by omega), h.load.keep hK (by omega), a1, a2, hs, h.marks.keep hK (by omega), hf, h.bel.trans hb, h.lo⟩
/-- Another queue at hand. -/
theorem DrainAt.newQ {qv' : Value} {Q' : List Ent} (h : DrainAt w wr ρ bc pb mb S W wc n N cp cap sh po Q Qs qv sq ws mk) (hb : Below wr.heap.size wr w') (ho : One w' wr.heap.size 104 4 qv' Q'.length (cQ Q')) :
    ∃ ρ', DrainAt w w' ρ' bc pb mb S W wc n N cp cap sh po Q' Qs qv' sq ws mk ∧ Keeps (fun _ => False) wr ρ w' ρ' := by
  obtain ⟨ρ', K, F, q2, r2⟩ := label_new (base := w.heap.size) (r := 2) hb ho h.bel.size h.free
  have hk := h.keep K F (hb.mono h.bel.size) (fun _ _ _ => id)
  exact ⟨ρ', ⟨hk.conf, hk.load, q2, r2, hk.set, hk.marks, F, hk.bel, hk.lo⟩, K⟩
theorem DrainAt.mark (h : DrainAt w wr ρ bc pb mb S W wc n N cp cap sh po Q Qs qv sq ws mk) (k : Nat) :
    DrainAt w (wr.setCell ⟨mb, k, none⟩ (.int .u64 ((mk k + 1 : Nat) : Int))) ρ bc pb mb S W wc n N cp cap sh po Q Qs qv sq ws (bump mk k) ∧ Keeps (fun r => r = 4) wr ρ (wr.setCell ⟨mb, k, none⟩ (.int .u64 ((mk k + 1 : Nat) : Int))) ρ := by
  have ho : OnlyB wr (wr.setCell ⟨mb, k, none⟩ (.int .u64 ((mk k + 1 : Nat) : Int))) mb _ := OnlyB.objSet h.marks.1 k (.int .u64 ((mk k + 1 : Nat) : Int))
  have hK : Keeps (fun r => r = 4) wr ρ (wr.setCell ⟨mb, k, none⟩ (.int .u64 ((mk k + 1 : Nat) : Int))) ρ := Keeps.only ρ ho h.marks.2
  obtain ⟨a1, a2⟩ := OneN.keep h.q h.qr hK (by omega)
  have hl := ho.at_ (lt_of_obj h.marks.1)
  have he : setc (fun j : Nat => Value.int .u64 (mk (j : Nat) : Nat)) k (.int .u64 ((mk k + 1 : Nat) : Int)) = fun j : Nat => Value.int .u64 (bump mk k (j : Nat) : Nat) := by
    funext x
    unfold bump
    by_cases hx : x = k
    · subst hx
      rw [setc_eq, if_pos rfl]
    · rw [setc_ne hx, if_neg (by omega)]
  rw [he] at hl
  exact ⟨⟨h.conf.keep hK (by omega), h.load.keep hK (by omega), a1, a2, h.set.keep hK (fun r h1 h2 _ => by omega), ⟨hl, h.marks.2⟩, h.free.le (Nat.le_of_eq ho.size.symm), h.bel.trans (ho.below h.lo), h.lo⟩, hK⟩
theorem DrainAt.turns (h : DrainAt w wr ρ bc pb mb S W wc n N cp cap sh po Q Qs qv sq ws mk) (ht : Turns 47 ρ ρ') (hf : Free wr ρ') : DrainAt w wr ρ' bc pb mb S W wc n N cp cap sh po Q Qs qv sq ws mk :=
  ⟨h.conf.turns ht (by omega), h.load.turns ht (by omega), h.q, role_turns h.qr ht (by omega), h.set.turns ht (by omega), h.marks.turns ht (by omega), hf, h.bel, h.lo⟩
theorem DrainAt.msgs {mv : Value} {ms : List SMsg} (h : DrainAt w wr ρ bc pb mb S W wc n N cp cap sh po Q Qs qv sq ws mk)
    (ho : One wr w.heap.size 102 22 mv ms.length (cM ms)) (hr : ∀ g, mv.ownBlock = some g → ρ g = 40 + 7) : ∃ ρ', DrainAt w wr ρ' bc pb mb S W wc n N cp cap sh po Q Qs qv sq ws mk ∧ MsgsAt wr w.heap.size ρ' mv ms := by
  cases hg : mv.ownBlock with
  | none => exact ⟨ρ, h, ho, fun g h => by rw [hg] at h; cases h⟩
  | some g =>
    have hb := ho.block hg
    have ht : Turns 47 ρ (lab ρ g 13) := fun k hk => lab_ne (fun e => hk (by rw [e]; exact hr g hg))
    refine ⟨lab ρ g 13, h.turns ht (h.free.lab (Nat.le_refl _) hb.2 _), ho, fun g' h => ?_⟩
    rw [hg] at h
    injection h with h
    subst h
    exact lab_eq
theorem DrainAt.confc (h : DrainAt w wr ρ bc pb mb S W wc n N cp cap sh po Q Qs qv sq ws mk) : ConfC wr bc n N cp cap :=
  ⟨cell_of_obj h.conf.1 0, cell_of_obj h.conf.1 1, cell_of_obj h.conf.1 2, cell_of_obj h.conf.1 3, cell_of_obj h.conf.1 4, cell_of_obj h.conf.1 5, cell_of_obj h.conf.1 6, cell_of_obj h.conf.1 7, cell_of_obj h.conf.1 8⟩
theorem DrainAt.markc (h : DrainAt w wr ρ bc pb mb S W wc n N cp cap sh po Q Qs qv sq ws mk) {k : Nat} (hk : k < N) : wr.cell? ⟨mb, k, none⟩ = some (.int .u64 (mk (k : Nat) : Nat)) ∧ wr.frozen? ⟨mb, k, none⟩ = false :=
  ⟨obj_cell h.marks.1 k hk, free_of_obj h.marks.1 k⟩
end
end Go.Proofs.Ytbgojhjlmlbfpaa
