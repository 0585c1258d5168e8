/- The disk: changes, Remove, Rename, SyncNames, Sync, Cut. -/
import Derived.Test.YtgkpobajafjdeaaP1
import Derived.Great.BuildSlice
import Derived.Lib.Strings
import Derived.Laws.IdiomCopy
/- A disk's parts put anew: its changes, its names. -/
namespace Go.Proofs.Ytgkpobajafjdeaa
open Go.RowKit Go.Maps

theorem grown_lab {w w' : World} {v0 v' : Value} {ρ : Nat → Nat} {r : Nat} (hg : w.grownBy w' v0.ownBlock) (hv : ∀ g, v0.ownBlock = some g → ρ g = r) (hat : v'.ownBlock = v0.ownBlock ∨ v'.ownBlock = some w.heap.size) (hlt : ∀ g, v'.ownBlock = some g → g < w'.heap.size) (hF : Free w ρ) :
    ∃ ρ', Keeps (fun x => x = r) w ρ w' ρ' ∧ Free w' ρ' ∧ (∀ g, v'.ownBlock = some g → ρ' g = r) := by
  cases h : v'.ownBlock with
  | none =>
    rcases hat with hat | hat
    · rw [h] at hat
      refine ⟨ρ, ⟨hg.size, fun k hk => ⟨rfl, fun _ => hg.block k hk (by rw [← hat]; simp)⟩⟩, hF.le hg.size, fun g hh => by cases hh⟩
    · rw [h] at hat; cases hat
  | some g =>
    have hat' : v0.ownBlock = some g ∨ g = w.heap.size := by
      rcases hat with hat | hat
      · left; rw [← hat, h]
      · right; rw [h] at hat; injection hat
    exact ⟨lab ρ g r, Keeps.grown hg hv rfl hat', hF.lab hg.size (hlt g h) r, fun g' hh => by injection hh with hh; subst hh; exact lab_eq⟩
theorem below_grown {w w' : World} {base : Nat} {v : Option Nat} (hg : w.grownBy w' v) (hv : ∀ g, v = some g → base ≤ g) (hb : base ≤ w.heap.size) : Below base w w' :=
  ⟨hg.os, hg.tape, hg.output, hg.size, fun k hk => hg.block k (by omega) (fun e => by have := hv k e.symm; omega)⟩
theorem ro_ne {i k l : Nat} (h : k ≠ l) : ro i k ≠ ro i l := by unfold ro; omega
/-- A step that leaves all roles of the disk but number k: the parts are as they were. -/
theorem DiskD.part {w w' : World} {base i D bN bS x : Nat} {ρ ρ' : Nat → Nat} {d : DM} {fb : Nat → Nat} {chv : Value} (h : DiskD w base ρ i D d fb bN bS chv) (K : Keeps (fun r => r = ro i x) w ρ w' ρ') :
    (x ≠ 0 → Objr w' ρ' (ro i 0) D (.cells (diskC d bN bS chv) 81 (0, 0))) ∧ (x ≠ 1 → MapAt w' bN fb d.names) ∧ ρ' bN = ro i 1 ∧ (x ≠ 2 → MapAt w' bS fb d.sure) ∧ ρ' bS = ro i 2 ∧
      (x ≠ 3 → One w' base 98 4 chv d.ch.length (cC fb d.ch)) ∧ (∀ g, chv.ownBlock = some g → ρ' g = ro i 3) ∧ (x < 4 → ∀ j, j < d.files.length → ∃ kv uv sv, FileD w' base ρ' i j (fb j) (d.file j) kv uv sv) :=
  ⟨fun hx => h.obj.keep K (ro_ne (fun e => hx e.symm)), fun hx => h.names.same ((K.2 bN h.names.lt).2 (by rw [h.namesr]; exact ro_ne (fun e => hx e.symm))), ((K.2 bN h.names.lt).1).trans h.namesr,
    fun hx => h.sure.same ((K.2 bS h.sure.lt).2 (by rw [h.surer]; exact ro_ne (fun e => hx e.symm))), ((K.2 bS h.sure.lt).1).trans h.surer,
    fun hx => h.ch.same fun g hg => (K.2 g (h.ch.block hg).2).2 (by rw [h.chr g hg]; exact ro_ne (fun e => hx e.symm)), fun g hg => ((K.2 g (h.ch.block hg).2).1).trans (h.chr g hg),
    fun hx j hj => by obtain ⟨kv, uv, sv, hf⟩ := h.files j hj; exact ⟨kv, uv, sv, hf.keep K (fun y _ => ro_ne (by omega))⟩⟩
/-- Its names put anew. -/
theorem DiskD.setNames {w w' : World} {base i D bN bS : Nat} {ρ : Nat → Nat} {d : DM} {fb : Nat → Nat} {chv : Value} {l : NM} (h : DiskD w base ρ i D d fb bN bS chv) (hm : MapAt w' bN fb l) (hg : w.grownBy w' (some bN)) :
    DiskD w' base ρ i D { d with names := l } fb bN bS chv ∧ Keeps (fun r => r = ro i 1) w ρ w' ρ ∧ Below base w w' := by
  have K : Keeps (fun r => r = ro i 1) w ρ w' ρ := ⟨hg.size, fun k hk => ⟨rfl, fun hn => hg.block k hk (fun e => hn (by injection e with e; rw [e]; exact h.namesr))⟩⟩
  obtain ⟨p1, _, p3, p4, p5, p6, p7, p8⟩ := h.part K
  exact ⟨⟨p1 (by omega), hm, p3, p4 (by omega), p5, p6 (by omega), p7, p8 (by omega), h.lo⟩, K, below_grown hg (fun g e => by cases e; exact h.lo.2.1) h.base_le⟩
/-- Its safe names put anew. -/
theorem DiskD.setSure {w w' : World} {base i D bN bS : Nat} {ρ : Nat → Nat} {d : DM} {fb : Nat → Nat} {chv : Value} {l : NM} (h : DiskD w base ρ i D d fb bN bS chv) (hm : MapAt w' bS fb l) (hg : w.grownBy w' (some bS)) :
    DiskD w' base ρ i D { d with sure := l } fb bN bS chv ∧ Keeps (fun r => r = ro i 2) w ρ w' ρ ∧ Below base w w' := by
  have K : Keeps (fun r => r = ro i 2) w ρ w' ρ := ⟨hg.size, fun k hk => ⟨rfl, fun hn => hg.block k hk (fun e => hn (by injection e with e; rw [e]; exact h.surer))⟩⟩
  obtain ⟨p1, p2, p3, _, p5, p6, p7, p8⟩ := h.part K
  exact ⟨⟨p1 (by omega), p2 (by omega), p3, hm, p5, p6 (by omega), p7, p8 (by omega), h.lo⟩, K, below_grown hg (fun g e => by cases e; exact h.lo.2.2) h.base_le⟩
theorem Keeps.any {i x : Nat} {w w' : World} {ρ ρ' : Nat → Nat} (K : Keeps (fun r => r = ro i x) w ρ w' ρ') : Keeps (fun r => ∃ k, r = ro i k) w ρ w' ρ' := K.mono fun _ h => ⟨x, h⟩
/-- Its changes put anew: the list, then the object's cell. -/
theorem DiskD.setCh {w w1 : World} {base i D bN bS : Nat} {ρ : Nat → Nat} {d : DM} {fb : Nat → Nat} {chv chv' : Value} {cs : List Ch} (h : DiskD w base ρ i D d fb bN bS chv) (hF : Free w ρ) (hg : w.grownBy w1 chv.ownBlock) (hat : chv'.ownBlock = chv.ownBlock ∨ chv'.ownBlock = some w.heap.size) (ho : One w1 base 98 4 chv' cs.length (cC fb cs)) :
    w1.heap[D]? = some (.cells (diskC d bN bS chv) 81 (0, 0)) ∧ ∃ ρ', DiskD (w1.setCell ⟨D, 4, none⟩ chv') base ρ' i D { d with ch := cs } fb bN bS chv' ∧ Keeps (fun r => ∃ k, r = ro i k) w ρ (w1.setCell ⟨D, 4, none⟩ chv') ρ' ∧ Free (w1.setCell ⟨D, 4, none⟩ chv') ρ' ∧ Below base w (w1.setCell ⟨D, 4, none⟩ chv') ∧ (w1.setCell ⟨D, 4, none⟩ chv').heap.size = w1.heap.size := by
  obtain ⟨ρ', K1, F1, hr1⟩ := grown_lab hg h.chr hat (fun g hg => (ho.block hg).2) hF
  obtain ⟨p1, p2, p3, p4, p5, _, _, p8⟩ := h.part K1
  have o1 := p1 (by omega)
  have hO := OnlyB.set (OnlyB.refl o1.1) (lt_of_obj o1.1) 4 chv'
  have K2 : Keeps (fun r => r = ro i 0) w1 ρ' (w1.setCell ⟨D, 4, none⟩ chv') ρ' := Keeps.only ρ' hO o1.2
  have e : Obj.cells ((diskC d bN bS chv).setIfInBounds 4 chv') 81 (0, 0) = .cells (diskC { d with ch := cs } bN bS chv') 81 (0, 0) := rfl
  rw [e] at hO
  have n1 := p2 (by omega)
  have n2 := p4 (by omega)
  refine ⟨o1.1, ρ', ⟨⟨hO.at_ (lt_of_obj o1.1), o1.2⟩, n1.same ((K2.2 bN n1.lt).2 (by rw [p3]; exact ro_ne (by omega))), p3, n2.same ((K2.2 bS n2.lt).2 (by rw [p5]; exact ro_ne (by omega))), p5,
    ho.same fun g hg => (K2.2 g (ho.block hg).2).2 (by rw [hr1 g hg]; exact ro_ne (by omega)), hr1, fun j hj => by obtain ⟨kv, uv, sv, hf⟩ := p8 (by omega) j hj; exact ⟨kv, uv, sv, hf.keep K2 (fun y _ => ro_ne (by omega))⟩, h.lo⟩,
    K1.any.trans K2.any, F1.le (Nat.le_of_eq hO.size.symm), (below_grown hg (fun g e => (h.ch.block e).1) h.base_le).trans (hO.below h.lo.1), hO.size⟩
theorem info_ch : (Try.prog.info? 98).map (fun i => (i.zero, i.size, i.bytes)) = some (some (.agg #[.int .i64 0, .string ⟨#[]⟩, .string ⟨#[]⟩, .pointer none]), 4, 48) := by kernel_rfl
theorem Ch.cell_one (fb : Nat → Nat) (c : Ch) (k : Nat) (hk : k < 4) : (c.cell fb k).oneCell' = true := by
  cases c <;> (rcases k with _ | _ | _ | _ | k <;> first | rfl | omega)
theorem cC_old (fb : Nat → Nat) (cs : List Ch) (c : Ch) (k : Nat) (hk : k < cs.length * 4) : cC fb cs k = cC fb (cs ++ [c]) k := by
  unfold cC
  rw [List.getElem?_append_left (by omega)]
theorem cC_new (fb : Nat → Nat) (cs : List Ch) (c : Ch) (k : Nat) (hk : k < 4) : cC fb (cs ++ [c]) (cs.length * 4 + k) = c.cell fb k := by
  rw [cC_at (u := c) hk (by simp)]
/-- Append of one change. -/
theorem append_ch (w : World) (base ty : Nat) (fb : Nat → Nat) (v0 : Value) (cs : List Ch) (c : Ch) (h0 : One w base 98 4 v0 cs.length (cC fb cs)) (b : Nat) (hb : w.heap[b]? = some (.cells #[c.cell fb 0, c.cell fb 1, c.cell fb 2, c.cell fb 3] 98 (0, 0))) (hn : cs.length ≤ 1000000000) (hbase : base ≤ w.heap.size) :
    ∃ v' w', (Builtin.append_ #[79, 79] ty #[v0, .slice (some ⟨b, 0, none⟩) 1 1]).run Try.prog w = .ok v' w' ∧ One w' base 98 4 v' (cs ++ [c]).length (cC fb (cs ++ [c])) ∧ w.grownBy w' v0.ownBlock ∧ (v'.ownBlock = v0.ownBlock ∨ v'.ownBlock = some w.heap.size) := by
  obtain ⟨k0, hkk, kz0, kz1, kz2⟩ := info_parts info_ch
  have hown := (h0.congr (fun k hk => cC_old fb cs c k hk)).own
  obtain ⟨v', w', r1, r2, r3, _, r5⟩ := run_append_own_at (P := Try.prog) (w := w) base 79 ty 98 k0 (.agg #[.int .i64 0, .string ⟨#[]⟩, .string ⟨#[]⟩, .pointer none]) 4 48 Try.underlying79 hkk kz0 kz1 kz2 rfl (by decide) v0 _ _ hown ⟨b, 0, none⟩ 1 1 [c.cell fb 0, c.cell fb 1, c.cell fb 2, c.cell fb 3] rfl
    (World.news_of_block hb) (by intro u hu; simp at hu; rcases hu with rfl | rfl | rfl | rfl <;> exact Ch.cell_one fb c _ (by omega)) (by unfold maxLen; omega) (by omega) hbase
  refine ⟨v', w', r1, ?_, r3, r5⟩
  rw [List.length_append]
  refine One.of ?_
  have e : (List.range (cs.length * 4)).map (cC fb (cs ++ [c])) ++ [c.cell fb 0, c.cell fb 1, c.cell fb 2, c.cell fb 3] = (List.range ((cs.length + [c].length) * 4)).map (cC fb (cs ++ [c])) := by
    have n0 := cC_new fb cs c 0 (by omega)
    have n1 := cC_new fb cs c 1 (by omega)
    have n2 := cC_new fb cs c 2 (by omega)
    have n3 := cC_new fb cs c 3 (by omega)
    rw [show (cs.length + [c].length) * 4 = cs.length * 4 + 1 + 1 + 1 + 1 by simp; omega, List.range_succ, List.range_succ, List.range_succ, List.range_succ]
    simp only [List.map_append, List.map_cons, List.map_nil, List.append_assoc, List.cons_append, List.nil_append]
    rw [← n0, ← n1, ← n2, ← n3]
    rfl
  rw [← e]
  exact r2
end Go.Proofs.Ytgkpobajafjdeaa

/- Disk.change: one name change, noted and carried out. -/
namespace Go.Proofs.Ytgkpobajafjdeaa
open Go.RowKit Go.Maps

theorem Ch.form (fb : Nat → Nat) (c : Ch) : ∃ (a : Int) (s1 s2 : ByteArray) (q : Option Addr), c.cell fb 0 = .int .i64 a ∧ c.cell fb 1 = .string s1 ∧ c.cell fb 2 = .string s2 ∧ c.cell fb 3 = .pointer q := by
  cases c <;> exact ⟨_, _, _, _, rfl, rfl, rfl, rfl⟩
theorem oper_append_by {P : Program} {w : World} {o : Oper} {a : Act} {K : Act → World → Prop} {Q : Exit → Act → World → Prop} (s x : Operand) (t : TypeId)
    (ho : o.op = .call { callee := .builtin .append, args := #[s, x], argTypes := #[t, t] }) {vs vx v' : Value} {w' : World} (hs : a.eval s = vs) (hx : a.eval x = vx)
    (hr : (Builtin.append_ #[t, t] o.type #[vs, vx]).run P w = .ok v' w') (h : K (a.put o.dst v') w') : o.wp P a w K Q := by
  unfold Oper.wp execOp
  simp only [ho, resolve, invoke, builtin, Sem.run_bind, Sem.run_pure, Result.andThen_ok, List.map_toArray, List.map_cons, List.map_nil, hs, hx, hr]
  exact h
theorem One.pos {w : World} {base sz n : Nat} {e : TypeId} {v : Value} {c : Nat → Value} (h : One w base e sz v n c) (hn : 0 < n) : ∃ g cap, v = .slice (some ⟨g, 0, none⟩) n cap ∧ n ≤ cap := by
  rcases h with ⟨_, h0⟩ | ⟨g, cap, cur, k1, _, _, k4, _⟩
  · omega
  · exact ⟨g, cap, k1, k4⟩
theorem ch_fill (a : Int) (s1 s2 : ByteArray) (q : Option Addr) : Instr.fill (fun i => some (i * 4, 4)) ((Array.range (1 * 4)).map ((Value.agg #[.int .i64 0, .string ⟨#[]⟩, .string ⟨#[]⟩, .pointer none]).cells[· % (Value.agg #[.int .i64 0, .string ⟨#[]⟩, .string ⟨#[]⟩, .pointer none]).cells.size]!)) [(0, .agg #[.int .i64 a, .string s1, .string s2, .pointer q])] = some #[.int .i64 a, .string s1, .string s2, .pointer q] := by kernel_rfl
def ChangeEnd (base : Nat) (ρ : Nat → Nat) (i D : Nat) (d : DM) (fb : Nat → Nat) (bN bS : Nat) (w : World) (e : Ending) (w' : World) : Prop :=
  e = .returned (.tuple #[]) ∧ ∃ ρ' chv, DiskD w' base ρ' i D d fb bN bS chv ∧ Keeps (fun r => ∃ k, r = ro i k) w ρ w' ρ' ∧ Free w' ρ' ∧ Below base w w'
set_option maxRecDepth 100000 in
set_option maxHeartbeats 8000000 in
theorem change_any (w : World) (base i D bN bS : Nat) (ρ : Nat → Nat) (d : DM) (fb : Nat → Nat) (chv : Value) (h : DiskD w base ρ i D d fb bN bS chv) (hF : Free w ρ) (c : Ch) (hP : PlayOk d.names [c]) (hn : d.ch.length ≤ 100000000) :
    Calls Try.prog 56 #[.pointer (some ⟨D, 0, none⟩), .agg #[c.cell fb 0, c.cell fb 1, c.cell fb 2, c.cell fb 3]] w (ChangeEnd base ρ i D (d.change c) fb bN bS w) := by
  obtain ⟨k0, hkk, kz0, kz1, kz2⟩ := info_parts info_ch
  obtain ⟨a, s1, s2, q, e0, e1, e2, e3⟩ := c.form fb
  have hb1 : Below w.heap.size w (w.alloc (.cells #[.int .i64 a, .string s1, .string s2, .pointer q] 98)) := (Below.refl _ _).alloc (Nat.le_refl _) _
  have h1 := h.below hb1
  have F1 : Free (w.alloc (.cells #[.int .i64 a, .string s1, .string s2, .pointer q] 98)) ρ := hF.le hb1.size
  have B1 := hb1.mono h.base_le
  have K1 := Keeps.below (fun r => ∃ k, r = ro i k) ρ hb1
  have x : ∀ j, (w.alloc (.cells #[.int .i64 a, .string s1, .string s2, .pointer q] 98)).cell? ⟨w.heap.size, j, none⟩ = #[Value.int .i64 a, .string s1, .string s2, .pointer q][j]? := fun j => cell_of_obj (heap_alloc_new w _) j
  have x0 := x 0
  have x1 := x 1
  have x2 := x 2
  have x3 := x 3
  have c4 := h1.cell 4
  simp only [diskC, List.getElem?_toArray, List.getElem?_cons_zero, List.getElem?_cons_succ] at c4 x0 x1 x2 x3
  have hchw : ∀ g, chv.ownBlock = some g → g ≠ w.heap.size := fun g hg e => by have := (h.ch.block hg).2; omega
  rw [e0, e1, e2, e3]
  have HX := Lib.hid (show w.heap.size < (w.alloc (.cells #[.int .i64 a, .string s1, .string s2, .pointer q] 98)).heap.size by simp)
  go_enter Try.func56, Try.ntmps56
  go_wp2_with fail
  generalize w.alloc (.cells #[.int .i64 a, .string s1, .string s2, .pointer q] 98) = w1 at h1 F1 B1 K1 x0 x1 x2 x3 c4 HX ⊢
  have hb2 : Below w1.heap.size w1 ((w1.alloc (.cells #[.int .i64 a, .string s1, .string s2, .pointer q] 98)).drew) := ((Below.refl _ _).alloc (Nat.le_refl _) _).drew
  have h2 := h1.below hb2
  have F2 : Free ((w1.alloc (.cells #[.int .i64 a, .string s1, .string s2, .pointer q] 98)).drew) ρ := F1.le hb2.size
  obtain ⟨v', w3, r3, o3, g3, a3⟩ := append_ch ((w1.alloc (.cells #[.int .i64 a, .string s1, .string s2, .pointer q] 98)).drew) base 79 fb chv d.ch c h2.ch w1.heap.size (by rw [e0, e1, e2, e3]; exact heap_alloc_new w1 _) (by omega) h2.base_le
  obtain ⟨g, cp, rfl, hcp⟩ := o3.pos (by simp)
  obtain ⟨oD3, ρ3, h3, K3, F3, B3, z3⟩ := h2.setCh F2 g3 a3 o3
  have k3 := fun j (v : Value) (hv : w1.cell? ⟨w.heap.size, j, none⟩ = some v) => (World.cell?_of_block (w := (w1.alloc (.cells #[.int .i64 a, .string s1, .string s2, .pointer q] 98)).drew) (a := ⟨w.heap.size, j, none⟩) (g3.block w.heap.size (Nat.lt_of_lt_of_le HX.out hb2.size) (fun e => hchw _ e.symm rfl))).trans (cellKeep hb2 hv)
  have y0 := k3 0 _ x0
  have y1 := k3 1 _ x1
  have y2 := k3 2 _ x2
  have y3 := k3 3 _ x3
  have y4 := cell_of_obj oD3 4
  have f4 := free_of_obj oD3 4
  simp only [diskC, List.getElem?_toArray, List.getElem?_cons_zero, List.getElem?_cons_succ] at y4
  have z0 := cellKeep hb2 x0
  have z1 := cellKeep hb2 x1
  have z2 := cellKeep hb2 x2
  have zz3 := cellKeep hb2 x3
  have z4 := cellKeep hb2 c4
  obtain ⟨n, hnn⟩ : ∃ n, d.ch.length = n := ⟨_, rfl⟩
  have hlen : (d.ch ++ [c]).length = n + 1 := by rw [List.length_append, hnn]; rfl
  have o3' := o3
  rw [hlen] at o3' r3 h3 K3 F3 B3 hcp
  have q1 : (n : Int) + 1 ≤ (cp : Int) := by omega
  have q2 : ¬ cp = n := by omega
  have qn : (n : Int) ≤ 100000000 := by omega
  have q5 : (n : Int) ≤ (n : Int) + 1 := by omega
  have hwn : IntKind.i64.wrap (n : Int) = n := by unfold IntKind.wrap; simp [IntKind.bits, IntKind.signed]; omega
  have HR3 := Lib.hid r3
  have H3 := Lib.hid h3
  have HK := Lib.hid ((K1.trans (Keeps.below (fun r => ∃ k, r = ro i k) ρ hb2)).trans K3)
  have HF3 := Lib.hid F3
  have HB3 := Lib.hid ((B1.trans (hb2.mono h1.base_le)).trans B3)
  have HO3 := Lib.hid o3'
  have HNN := Lib.hid hnn
  have HD := Lib.hid h
  have HP := Lib.hid hP
  clear h h1 h2 hF F1 F2 B1 K1 K3 F3 B3 r3 g3 a3 k3 h3 o3 o3' hnn hlen hcp hb1 hb2 oD3 z3 x hP
  refine wp_region_S 8 (fun w' => w'.cell? ⟨D, 4, none⟩ = some chv ∧ w'.cell? ⟨w.heap.size, 0, none⟩ = some (.int .i64 a) ∧ w'.cell? ⟨w.heap.size, 1, none⟩ = some (.string s1) ∧ w'.cell? ⟨w.heap.size, 2, none⟩ = some (.string s2) ∧ w'.cell? ⟨w.heap.size, 3, none⟩ = some (.pointer q)) (by kernel_rfl) ?_
  have hSw0 := And.intro c4 (And.intro x0 (And.intro x1 (And.intro x2 x3)))
  refine wpAnyS_take [0, 8, 9, 10] (i := 0) (v := ?_) rfl (by kernel_rfl) (by kernel_rfl) (by kernel_rfl) (by kernel_rfl) (by kernel_rfl) (fun _ _ _ h => h) (Or.inl ⟨by rfl, fun w hSw => ?_⟩) hSw0 ?_
  rotate_left
  · (try dsimp only at hSw); go_split_ands; go_simp <;> with_reducible rfl
  (try simp only [Act.put, List.getElem_toArray, List.getElem_cons_zero, List.setIfInBounds_toArray, List.set_cons_zero, List.set_cons_succ])
  refine wpAnyS_take [1, 2, 3, 4, 7, 8, 9, 10] (i := 1) (v := ?_) rfl (by kernel_rfl) (by kernel_rfl) (by kernel_rfl) (by kernel_rfl) (by kernel_rfl) (fun _ _ _ h => h) (Or.inl ⟨by rfl, fun w hSw => ?_⟩) hSw0 ?_
  rotate_left
  · (try dsimp only at hSw); go_split_ands; go_simp <;> with_reducible rfl
  (try simp only [Act.put, List.getElem_toArray, List.getElem_cons_succ, List.getElem_cons_zero, List.setIfInBounds_toArray, List.set_cons_zero, List.set_cons_succ])
  refine wpAnyS_take [2, 3, 4, 7, 8, 9, 10] (i := 2) (v := ?_) rfl (by kernel_rfl) (by kernel_rfl) (by kernel_rfl) (by kernel_rfl) (by kernel_rfl) (fun _ _ _ h => h) (Or.inl ⟨by rfl, fun w hSw => ?_⟩) hSw0 ?_
  rotate_left
  · (try dsimp only at hSw); go_split_ands; go_simp <;> with_reducible rfl
  (try simp only [Act.put, List.getElem_toArray, List.getElem_cons_succ, List.getElem_cons_zero, List.setIfInBounds_toArray, List.set_cons_zero, List.set_cons_succ])
  refine wpAnyS_take [3, 4, 7, 8, 9, 10] (i := 3) (v := ?_) rfl (by kernel_rfl) (by kernel_rfl) (by kernel_rfl) (by kernel_rfl) (by kernel_rfl) (fun _ _ _ h => h) (Or.inl ⟨by rfl, fun w hSw => ?_⟩) hSw0 ?_
  rotate_left
  · (try dsimp only at hSw); go_split_ands; go_simp <;> with_reducible rfl
  (try simp only [Act.put, List.getElem_toArray, List.getElem_cons_succ, List.getElem_cons_zero, List.setIfInBounds_toArray, List.set_cons_zero, List.set_cons_succ])
  refine wpAnyS_take [4, 7, 8, 9, 10] (i := 4) (v := ?_) rfl (by kernel_rfl) (by kernel_rfl) (by kernel_rfl) (by kernel_rfl) (by kernel_rfl) (fun _ _ _ h => h) (Or.inl ⟨by rfl, fun w hSw => ?_⟩) hSw0 ?_
  rotate_left
  · (try dsimp only at hSw); go_split_ands; go_simp <;> with_reducible rfl
  (try simp only [Act.put, List.getElem_toArray, List.getElem_cons_succ, List.getElem_cons_zero, List.setIfInBounds_toArray, List.set_cons_zero, List.set_cons_succ])
  refine wpAnyS_take [5, 6, 7, 8, 9, 10] (i := 5) (v := ?_) rfl (by kernel_rfl) (by kernel_rfl) (by kernel_rfl) (by kernel_rfl) (by kernel_rfl) (fun _ _ _ h => h) (Or.inl ⟨by rfl, fun w hSw => ?_⟩) hSw0 ?_
  rotate_left
  · (try dsimp only at hSw); go_split_ands; go_simp <;> with_reducible rfl
  (try simp only [Act.put, List.getElem_toArray, List.getElem_cons_succ, List.getElem_cons_zero, List.setIfInBounds_toArray, List.set_cons_zero, List.set_cons_succ])
  refine wpAnyS_one (k := 6) rfl (by kernel_rfl) (by rfl) ?_
  refine wp_buildSlice 79 98 1 #[(0, .tmp 9)] rfl #[.int .i64 a, .string s1, .string s2, .pointer q] k0 (.agg #[.int .i64 0, .string ⟨#[]⟩, .string ⟨#[]⟩, .pointer none]) Try.underlying79 hkk kz0 (by rw [kz1]; decide) (by rw [kz1]; decide) (by rw [kz1]; refine Eq.trans (congrArg (Instr.fill _ _) ?_) (ch_fill a s1 s2 q); simp only [List.map_toArray, List.map_cons, List.map_nil, Act.eval]; rfl) ?_
  refine ⟨fun _ => ⟨z4, z0, z1, z2, zz3⟩, ?_⟩
  refine wpAnyS_one (k := 7) rfl (by kernel_rfl) (by rfl) ?_
  refine oper_append_by (.tmp 8) (.tmp 10) 79 rfl rfl rfl HR3.out ?_
  refine ⟨fun _ => ⟨y4, y0, y1, y2, y3⟩, ?_⟩
  (try simp only [Act.put, List.getElem_toArray, List.getElem_cons_succ, List.getElem_cons_zero, List.setIfInBounds_toArray, List.set_cons_zero, List.set_cons_succ])
  refine wpAnyS_tail 8 (Nat.le_refl _) rfl (by kernel_rfl) ?_
  simp only [List.drop_succ_cons, List.drop_zero]
  go_wp2_with fail
  generalize w3.setCell ⟨D, 4, none⟩ (.slice (some ⟨g, 0, none⟩) (n + 1) cp) = w4 at H3 HK HF3 HB3 ⊢
  clear hSw0 y0 y1 y2 y3 y4 f4 z0 z1 z2 zz3 z4 c4 x0 x1 x2 x3
  have u2 := H3.out.cell 2
  have u4 := H3.out.cell 4
  simp only [diskC, List.getElem?_toArray, List.getElem?_cons_zero, List.getElem?_cons_succ] at u2 u4
  refine wp_region_held_drew (S := fun w' => w'.cell? ⟨D, 2, none⟩ = some (.map (some bN)) ∧ w'.cell? ⟨D, 4, none⟩ = some (.slice (some ⟨g, 0, none⟩) (n + 1) cp)) (by kernel_rfl) ⟨u2, u4⟩ (fun hHeld => ?_)
  refine wpAnyH_take (i := 0) (v := ?_) rfl (by kernel_rfl) (by kernel_rfl) (by kernel_rfl) (fun _ _ _ h => h) (Or.inl ⟨by rfl, fun w hSw => ?_⟩) hHeld ?_
  rotate_left
  · (try dsimp only at hSw); go_split_ands; go_simp <;> with_reducible rfl
  (try simp only [Act.put, List.getElem_toArray, List.getElem_cons_zero, List.setIfInBounds_toArray, List.set_cons_zero, List.set_cons_succ])
  refine wpAnyH_take (i := 1) (v := ?_) rfl (by kernel_rfl) (by kernel_rfl) (by kernel_rfl) (fun _ _ _ h => h) (Or.inl ⟨by rfl, fun w hSw => ?_⟩) hHeld ?_
  rotate_left
  · (try dsimp only at hSw); go_split_ands; go_simp <;> with_reducible rfl
  (try simp only [Act.put, List.getElem_toArray, List.getElem_cons_succ, List.getElem_cons_zero, List.setIfInBounds_toArray, List.set_cons_zero, List.set_cons_succ])
  refine wpAnyH_take (i := 2) (v := ?_) rfl (by kernel_rfl) (by kernel_rfl) (by kernel_rfl) (fun _ _ _ h => h) (Or.inl ⟨by rfl, fun w hSw => ?_⟩) hHeld ?_
  rotate_left
  · (try dsimp only at hSw); go_split_ands; go_simp <;> with_reducible rfl
  (try simp only [Act.put, List.getElem_toArray, List.getElem_cons_succ, List.getElem_cons_zero, List.setIfInBounds_toArray, List.set_cons_zero, List.set_cons_succ])
  refine wpAnyH_take (i := 3) (v := ?_) rfl (by kernel_rfl) (by kernel_rfl) (by kernel_rfl) (fun _ _ _ h => h) (Or.inl ⟨by rfl, fun w hSw => ?_⟩) hHeld ?_
  rotate_left
  · (try dsimp only at hSw); go_split_ands; go_simp <;> with_reducible rfl
  (try simp only [Act.put, List.getElem_toArray, List.getElem_cons_succ, List.getElem_cons_zero, List.setIfInBounds_toArray, List.set_cons_zero, List.set_cons_succ])
  refine wpAnyH_take (i := 4) (v := ?_) rfl (by kernel_rfl) (by kernel_rfl) (by kernel_rfl) (fun _ _ _ h => h) (Or.inl ⟨by rfl, fun w hSw => ?_⟩) hHeld ?_
  rotate_left
  · (try dsimp only at hSw); go_split_ands; go_simp <;> with_reducible rfl
  (try simp only [Act.put, List.getElem_toArray, List.getElem_cons_succ, List.getElem_cons_zero, List.setIfInBounds_toArray, List.set_cons_zero, List.set_cons_succ])
  refine wpAnyH_take (i := 5) (v := ?_) rfl (by kernel_rfl) (by kernel_rfl) (by kernel_rfl) (fun _ _ _ h => h) (Or.inl ⟨by rfl, fun w hSw => ?_⟩) hHeld ?_
  rotate_left
  · (try dsimp only at hSw); go_split_ands; go_simp <;> with_reducible rfl
  (try simp only [Act.put, List.getElem_toArray, List.getElem_cons_succ, List.getElem_cons_zero, List.setIfInBounds_toArray, List.set_cons_zero, List.set_cons_succ])
  refine wpAnyH_take (i := 6) (v := ?_) rfl (by kernel_rfl) (by kernel_rfl) (by kernel_rfl) (fun _ _ _ h => h) (Or.inl ⟨by rfl, fun w hSw => ?_⟩) hHeld ?_
  rotate_left
  · (try dsimp only at hSw); go_split_ands; go_simp <;> with_reducible rfl
  (try simp only [Act.put, List.getElem_toArray, List.getElem_cons_succ, List.getElem_cons_zero, List.setIfInBounds_toArray, List.set_cons_zero, List.set_cons_succ])
  refine wpAnyH_take (i := 7) (v := ?_) rfl (by kernel_rfl) (by kernel_rfl) (by kernel_rfl) (fun _ _ _ h => h) (Or.inl ⟨by rfl, fun w hSw => ?_⟩) hHeld ?_
  rotate_left
  · (try dsimp only at hSw); go_split_ands; go_simp <;> with_reducible rfl
  (try simp only [Act.put, List.getElem_toArray, List.getElem_cons_succ, List.getElem_cons_zero, List.setIfInBounds_toArray, List.set_cons_zero, List.set_cons_succ])
  refine wpAnyH_take (i := 8) (v := ?_) rfl (by kernel_rfl) (by kernel_rfl) (by kernel_rfl) (fun _ _ _ h => h) (Or.inl ⟨by rfl, fun w hSw => ?_⟩) hHeld ?_
  rotate_left
  · (try dsimp only at hSw); go_split_ands; go_simp <;> with_reducible rfl
  (try simp only [Act.put, List.getElem_toArray, List.getElem_cons_succ, List.getElem_cons_zero, List.setIfInBounds_toArray, List.set_cons_zero, List.set_cons_succ])
  refine wpAnyH_take (i := 9) (v := ?_) rfl (by kernel_rfl) (by kernel_rfl) (by kernel_rfl) (fun _ _ _ h => h) (Or.inl ⟨by rfl, fun w hSw => ?_⟩) hHeld ?_
  rotate_left
  · (try dsimp only at hSw); go_split_ands; go_simp <;> with_reducible rfl
  (try simp only [Act.put, List.getElem_toArray, List.getElem_cons_succ, List.getElem_cons_zero, List.setIfInBounds_toArray, List.set_cons_zero, List.set_cons_succ])
  refine wpAnyH_take (i := 10) (v := ?_) rfl (by kernel_rfl) (by kernel_rfl) (by kernel_rfl) (fun _ _ _ h => h) (Or.inl ⟨by rfl, fun w hSw => ?_⟩) hHeld ?_
  rotate_left
  · (try dsimp only at hSw); go_split_ands; go_simp <;> with_reducible rfl
  (try simp only [Act.put, List.getElem_toArray, List.getElem_cons_succ, List.getElem_cons_zero, List.setIfInBounds_toArray, List.set_cons_zero, List.set_cons_succ])
  refine wpAnyH_take (i := 11) (v := ?_) rfl (by kernel_rfl) (by kernel_rfl) (by kernel_rfl) (fun _ _ _ h => h) (Or.inl ⟨by rfl, fun w hSw => ?_⟩) hHeld ?_
  rotate_left
  · (try dsimp only at hSw); go_split_ands; go_simp <;> with_reducible rfl
  (try simp only [Act.put, List.getElem_toArray, List.getElem_cons_succ, List.getElem_cons_zero, List.setIfInBounds_toArray, List.set_cons_zero, List.set_cons_succ])
  refine wpAnyH_take (i := 12) (v := ?_) rfl (by kernel_rfl) (by kernel_rfl) (by kernel_rfl) (fun _ _ _ h => h) (Or.inl ⟨by rfl, fun w hSw => ?_⟩) hHeld ?_
  rotate_left
  · (try dsimp only at hSw); go_split_ands; go_simp <;> with_reducible rfl
  (try simp only [Act.put, List.getElem_toArray, List.getElem_cons_succ, List.getElem_cons_zero, List.setIfInBounds_toArray, List.set_cons_zero, List.set_cons_succ])
  refine wpAnyH_take (i := 13) (v := ?_) rfl (by kernel_rfl) (by kernel_rfl) (by kernel_rfl) (fun _ _ _ h => h) (Or.inl ⟨by rfl, fun w hSw => ?_⟩) hHeld ?_
  rotate_left
  · (try dsimp only at hSw); go_split_ands; go_simp <;> with_reducible rfl
  (try simp only [Act.put, List.getElem_toArray, List.getElem_cons_succ, List.getElem_cons_zero, List.setIfInBounds_toArray, List.set_cons_zero, List.set_cons_succ])
  refine wpAnyH_take (i := 14) (v := ?_) rfl (by kernel_rfl) (by kernel_rfl) (by kernel_rfl) (fun _ _ _ h => h) (Or.inl ⟨by rfl, fun w hSw => ?_⟩) hHeld ?_
  rotate_left
  · (try dsimp only at hSw); go_split_ands; go_simp <;> with_reducible rfl
  (try simp only [Act.put, List.getElem_toArray, List.getElem_cons_succ, List.getElem_cons_zero, List.setIfInBounds_toArray, List.set_cons_zero, List.set_cons_succ])
  refine wpAnyH_ready (rs := [15]) (by kernel_rfl) (by simp) (AllReadyH.cons rfl (fun K hK => ?_) AllReadyH.nil)
  go_simp
  go_at_call 45
  have hd4 := H3.out.below ((Below.refl w4.heap.size w4).drew)
  have hoc := hd4.ch
  simp only [List.length_append, List.length_cons, List.length_nil, Nat.zero_add, HNN.out] at hoc
  have hA : ChAt w4.drew fb (some ⟨g, n * 4, none⟩) [c] := fun k c' hk => by
    rcases k with _ | k
    · simp at hk
      subst hk
      refine ⟨g, n * 4, rfl, fun j hj => ?_⟩
      obtain ⟨g', eg, hc⟩ := hoc.getN (k := n * 4 + j) (by omega) (by omega)
      injection eg with eg
      injection eg with eg
      subst eg
      have := cC_new fb d.ch c j hj
      rw [HNN.out] at this
      rw [show n * 4 + 0 * 4 + j = n * 4 + j by omega, hc, this]
    · simp at hk
  (with_reducible refine (play_any w4.drew bN 1 (cp - n) fb d.names (some ⟨g, n * 4, none⟩) [c] rfl hd4.names hA HP.out (by omega)).mono ?_)
  rintro e w5 ⟨rfl, hm5, hg5⟩
  obtain ⟨h5, K5, B5⟩ := hd4.setNames hm5 hg5
  have v2 := h5.cell 2
  have v4 := h5.cell 4
  simp only [diskC, List.getElem?_toArray, List.getElem?_cons_zero, List.getElem?_cons_succ] at v2 v4
  have H5 := Lib.hid h5
  have HK5 := Lib.hid ((HK.out.trans (Keeps.below (fun r => ∃ k, r = ro i k) ρ3 ((Below.refl w4.heap.size w4).drew))).trans K5.any)
  have HF5 := Lib.hid (HF3.out.le K5.1)
  have HB5 := Lib.hid ((HB3.out.trans ((Below.refl w4.heap.size w4).drew.mono H3.out.base_le)).trans B5)
  refine hK.out _ _ ⟨v2, v4⟩ (fun hHeld => ?_)
  clear hK K h5 K5 B5 hm5 hg5 hA hoc hd4
  (try simp only [Act.put, List.getElem_toArray, List.getElem_cons_succ, List.getElem_cons_zero, List.setIfInBounds_toArray, List.set_cons_zero, List.set_cons_succ])
  refine wpAnyH_done (by kernel_rfl) ?_ _
  go_wp2_with fail
  go_end0
  exact ⟨rfl, ρ3, _, H5.out, HK5.out, HF5.out, HB5.out⟩
end Go.Proofs.Ytgkpobajafjdeaa

/- Disk.Remove, Disk.Rename. -/
namespace Go.Proofs.Ytgkpobajafjdeaa
open Go.RowKit Go.Maps

/-- The disk is of a size that machines have. -/
structure DM.Fit (d : DM) : Prop where
  strokes : d.strokes < 1000000000
  count : d.count < 1000000000
  chl : d.ch.length ≤ 100000000
  namel : d.names.length < 100000
  ok : NM.Ok d.names
  idx : ∀ p ∈ d.names, p.2 < d.files.length
  used : d.used ≤ 1000000000000
theorem length_ins (x : BS × Nat) : ∀ l : NM, (NM.ins x l).length = l.length + 1
  | [] => rfl
  | y :: r => by
    unfold NM.ins
    split
    · rfl
    · simp [length_ins x r]
theorem length_del (l : NM) (n : BS) : (NM.del l n).length ≤ l.length := List.length_filter_le _ _
theorem length_put (l : NM) (n : BS) (f : Nat) : (NM.put l n f).length ≤ l.length + 1 := by
  unfold NM.put
  rw [length_ins]
  have := length_del l n
  omega
theorem length_on (l : NM) (c : Ch) : (Ch.on l c).length ≤ l.length + 1 := by
  cases c with
  | makes n f => exact length_put l n f
  | removes n => have := length_del l n; show (NM.del l n).length ≤ _; omega
  | renames n t =>
    cases hg : l.get n with
    | none => simp only [Ch.on, hg]; exact Nat.le_succ _
    | some f => simp only [Ch.on, hg]; exact Nat.le_trans (length_del _ _) (length_put l t f)
theorem toList_inj {a b : ByteArray} (h : a.toList = b.toList) : a = b := by
  rw [Lib.toList_data, Lib.toList_data] at h
  apply ByteArray.ext
  exact Array.toList_inj.1 h
theorem str_ne {a b : ByteArray} (h : a ≠ b) : (a.toList == b.toList) = false := by
  rw [beq_eq_false_iff_ne]
  exact fun e => h (toList_inj e)
set_option maxRecDepth 100000 in
set_option maxHeartbeats 8000000 in
theorem str_same (s : ByteArray) : (s != s) = false := by
  have := (MapKept.bytes_beq s s).2 rfl
  unfold bne
  rw [this]
  rfl
theorem str_other {s t : ByteArray} (h : s ≠ t) : (s != t) = true := by
  cases hb : s == t with
  | true => exact absurd ((MapKept.bytes_beq s t).1 hb) h
  | false => unfold bne; rw [hb]; rfl
theorem playOk_one {l : NM} {c : Ch} (hc : c.can l) (hf : c.fits) (h : l.length < 100000) : PlayOk l [c] := by
  refine ⟨fun k c' hk => ?_, fun k => ?_⟩
  · rcases k with _ | k
    · simp at hk; subst hk; exact ⟨hc, hf⟩
    · simp at hk
  · rcases k with _ | k
    · show l.length < _; omega
    · have e : [c].take (k + 1) = [c] := by simp
      rw [e]
      have := length_on l c
      show (Ch.on l c).length < _
      omega
theorem fair_len {n : BS} (h : fairB n = true) : 1 ≤ n.length ∧ n.length ≤ 64 := by
  unfold fairB at h
  simp at h
  exact h.2
theorem err_zero {d : DM} {n : BS} (h : d.err n = 0) : d.off = false ∧ fairB n = true := by
  rcases err_cases d n with ⟨_, e⟩ | ⟨_, _, e⟩ | ⟨_, _, _, e⟩ | ⟨e1, e2, _, _⟩
  · rw [e] at h; cases h
  · rw [e] at h; cases h
  · rw [e] at h; cases h
  · exact ⟨e1, e2⟩
def OpEnd (base : Nat) (ρ : Nat → Nat) (i D : Nat) (r : DM × Int) (w : World) (e : Ending) (w' : World) : Prop := e = .returned (.int .i64 r.2) ∧ DkEnd base ρ i D r.1 w w'
theorem DiskD.end0 {w : World} {base i D bN bS : Nat} {ρ : Nat → Nat} {d : DM} {fb : Nat → Nat} {chv : Value} (h : DiskD w base ρ i D d fb bN bS chv) (hF : Free w ρ) : DkEnd base ρ i D d w w := ⟨ρ, ⟨fb, bN, bS, chv, h⟩, Keeps.refl _ _ _, hF, Below.refl _ _⟩
set_option maxRecDepth 100000 in
set_option maxHeartbeats 1000000 in
theorem remove_any (w : World) (base i D bN bS : Nat) (ρ : Nat → Nat) (d : DM) (fb : Nat → Nat) (chv : Value) (h : DiskD w base ρ i D d fb bN bS chv) (hi : i < 16) (hF : Free w ρ) (hd : d.Fit) (s : ByteArray) (hs : s.size ≤ maxLen) :
    Calls Try.prog 52 #[.pointer (some ⟨D, 0, none⟩), .string s] w (OpEnd base ρ i D (d.remove s.data.toList) w) := by
  have hf := find_any w base i D bN bS ρ d fb chv h s hs
  rcases find_cases d fb s.data.toList with ⟨e1, e2, e3⟩ | ⟨e1, f, e2, e3⟩
  · have er : d.remove s.data.toList = (d, d.err s.data.toList) := if_neg e1
    rw [er]
    rw [e2] at hf
    obtain ⟨er, her⟩ : ∃ er, d.err s.data.toList = er := ⟨_, rfl⟩
    rw [her] at hf e1 ⊢
    have q1 : (er != 0) = true := by simp [bne, e1]
    have HE := Lib.hid (h.end0 hF)
    have HF := Lib.hid hf
    clear h hf e1 e2 e3 her hd
    go_enter Try.func52, Try.ntmps52
    go_wp2_with (go_at_call 41; (with_reducible refine HF.out.mono ?_); rintro e w1 ⟨rfl, rfl⟩)
    go_ret
    exact ⟨rfl, HE.out⟩
  · have er : d.remove s.data.toList = (d.stroke.change (.removes s.data.toList), toldN d.stroke.off) := if_pos e1
    rw [er]
    rw [e3, e1] at hf
    have hst := stroke_any w base i D bN bS ρ d fb chv h hi hd.strokes hd.count
    obtain ⟨so, hso⟩ : ∃ so, d.stroke.off = so := ⟨_, rfl⟩
    unfold StrokeEnd at hst
    rw [hso] at hst ⊢
    have HS := Lib.hid hst
    have HP := Lib.hid (playOk_one (l := d.stroke.names) (c := .removes s.data.toList) trivial (show s.data.toList.length ≤ 64 from (fair_len (err_zero e1).2).2) hd.namel)
    have HC := Lib.hid (show d.stroke.ch.length ≤ 100000000 from hd.chl)
    have HF := Lib.hid hf
    have HF0 := Lib.hid hF
    have hstr := str_list s
    clear h hf e1 e2 e3 hd hst hso
    go_enter Try.func52, Try.ntmps52
    go_wp2_with (first | (go_at_call 41; (with_reducible refine HF.out.mono ?_); rintro e w1 ⟨rfl, rfl⟩) | (go_at_call 54; (with_reducible refine HS.out.mono ?_); rintro e w2 ⟨rfl, h2, K2, z2, B2⟩; have HK2 := Lib.hid K2.any; have HB2 := Lib.hid B2; have F2 := HF0.out.le (Nat.le_of_eq z2.symm); have hch := change_any w2 base i D bN bS ρ d.stroke fb chv h2 F2 (.removes s.data.toList) HP.out HC.out; simp only [Ch.cell, hstr] at hch; have HCH := Lib.hid hch; clear h2 K2 B2 F2 hch z2) | (go_at_call 56; (with_reducible refine HCH.out.mono ?_); rintro e w3 ⟨rfl, ρ3, chv3, h3, K3, F3, B3⟩; have H3 := Lib.hid (And.intro h3 (And.intro K3 (And.intro F3 B3))); clear h3 K3 F3 B3) | (go_at_call 57; (with_reducible refine (told_any _ so).mono ?_); rintro e w4 ⟨rfl, rfl⟩))
    go_ret
    obtain ⟨h3, K3, F3, B3⟩ := H3.out
    exact ⟨rfl, ρ3, ⟨fb, bN, bS, chv3, h3⟩, HK2.out.trans K3, F3, HB2.out.trans B3⟩
set_option maxRecDepth 100000 in
set_option maxHeartbeats 2000000 in
theorem rename_any (w : World) (base i D bN bS : Nat) (ρ : Nat → Nat) (d : DM) (fb : Nat → Nat) (chv : Value) (h : DiskD w base ρ i D d fb bN bS chv) (hi : i < 16) (hF : Free w ρ) (hd : d.Fit) (s t : ByteArray) (hs : s.size ≤ maxLen) (ht : t.size ≤ maxLen) :
    Calls Try.prog 51 #[.pointer (some ⟨D, 0, none⟩), .string s, .string t] w (OpEnd base ρ i D (d.rename s.data.toList t.data.toList) w) := by
  have hf := find_any w base i D bN bS ρ d fb chv h s hs
  have hfa := fair_any w t (by unfold maxLen at ht; omega)
  have HE := Lib.hid (h.end0 hF)
  have HFA := Lib.hid hfa
  rcases find_cases d fb s.data.toList with ⟨e1, e2, e3⟩ | ⟨e1, f, e2, e3⟩
  · rw [e2] at hf
    have HF := Lib.hid hf
    have HD : (d.rename s.data.toList t.data.toList) = (d, if d.err s.data.toList = 45 then 45 else if d.err s.data.toList = 41 then 41 else if fairB t.data.toList = false then 41 else 42) := by
      unfold DM.rename
      rw [if_neg e1]
      rcases e3 with e | e | e <;> rw [e] <;> simp
      split <;> rfl
    rw [HD]
    clear h hd hf HD hfa
    rcases e3 with e | e | e
    · rw [e] at HF ⊢
      clear e1 e2 e
      go_enter Try.func51, Try.ntmps51
      go_wp2_with (go_at_call 41; (with_reducible refine HF.out.mono ?_); rintro e w1 ⟨rfl, rfl⟩)
      go_ret
      exact ⟨rfl, HE.out⟩
    · rw [e] at HF ⊢
      clear e1 e2 e
      go_enter Try.func51, Try.ntmps51
      go_wp2_with (go_at_call 41; (with_reducible refine HF.out.mono ?_); rintro e w1 ⟨rfl, rfl⟩)
      go_ret
      exact ⟨rfl, HE.out⟩
    · rw [e] at HF ⊢
      clear e1 e2 e
      obtain ⟨b, hb⟩ : ∃ b, fairB t.data.toList = b := ⟨_, rfl⟩
      rw [hb] at HFA ⊢
      clear hb
      cases b with
      | true =>
        go_enter Try.func51, Try.ntmps51
        go_wp2_with (first | (go_at_call 41; (with_reducible refine HF.out.mono ?_); rintro e w1 ⟨rfl, rfl⟩) | (go_at_call 37; (with_reducible refine HFA.out.mono ?_); rintro e w1 ⟨rfl, rfl⟩))
        go_ret
        exact ⟨rfl, HE.out⟩
      | false =>
        go_enter Try.func51, Try.ntmps51
        go_wp2_with (first | (go_at_call 41; (with_reducible refine HF.out.mono ?_); rintro e w1 ⟨rfl, rfl⟩) | (go_at_call 37; (with_reducible refine HFA.out.mono ?_); rintro e w1 ⟨rfl, rfl⟩))
        go_ret
        exact ⟨rfl, HE.out⟩
  · rw [e3, e1] at hf
    have HF := Lib.hid hf
    have HD : (d.rename s.data.toList t.data.toList) = if fairB t.data.toList = false then (d, 41) else (if s.data.toList = t.data.toList then d.stroke else d.stroke.change (.renames s.data.toList t.data.toList), toldN d.stroke.off) := by
      unfold DM.rename
      rw [e1]
      simp
    rw [HD]
    cases hb : fairB t.data.toList with
    | false =>
      rw [hb] at HFA
      rw [if_pos rfl]
      clear h hd hf HD hfa e1 e2 e3 hb
      go_enter Try.func51, Try.ntmps51
      go_wp2_with (first | (go_at_call 41; (with_reducible refine HF.out.mono ?_); rintro e w1 ⟨rfl, rfl⟩) | (go_at_call 37; (with_reducible refine HFA.out.mono ?_); rintro e w1 ⟨rfl, rfl⟩))
      go_ret
      exact ⟨rfl, HE.out⟩
    | true =>
      rw [hb] at HFA
      rw [if_neg (by decide)]
      have hst := stroke_any w base i D bN bS ρ d fb chv h hi hd.strokes hd.count
      obtain ⟨so, hso⟩ : ∃ so, d.stroke.off = so := ⟨_, rfl⟩
      unfold StrokeEnd at hst
      rw [hso] at hst ⊢
      have HS := Lib.hid hst
      have HF0 := Lib.hid hF
      by_cases hst2 : s = t
      · subst hst2
        rw [if_pos rfl]
        have q1 := str_same s
        clear h hd hf HD hfa e1 e2 e3 hb hst hso
        go_enter Try.func51, Try.ntmps51
        go_wp2_with (first | (go_at_call 41; (with_reducible refine HF.out.mono ?_); rintro e w1 ⟨rfl, rfl⟩) | (go_at_call 37; (with_reducible refine HFA.out.mono ?_); rintro e w1 ⟨rfl, rfl⟩) | (go_at_call 54; (with_reducible refine HS.out.mono ?_); rintro e w2 ⟨rfl, h2, K2, z2, B2⟩) | (go_at_call 57; (with_reducible refine (told_any _ so).mono ?_); rintro e w4 ⟨rfl, rfl⟩))
        go_ret
        exact ⟨rfl, ρ, ⟨fb, bN, bS, chv, h2⟩, K2.any, HF0.out.le (Nat.le_of_eq z2.symm), B2⟩
      · have hne : ¬ s.data.toList = t.data.toList := fun e => hst2 (by rw [← str_list s, ← str_list t, e])
        rw [if_neg hne]
        have q1 := str_other hst2
        have q2 := str_ne hst2
        have hcan : Ch.can d.stroke.names (.renames s.data.toList t.data.toList) := by show (d.names.get s.data.toList).isSome = true; rw [e2]; rfl
        have HP := Lib.hid (playOk_one hcan (show _ ∧ _ from ⟨(fair_len (err_zero e1).2).2, (fair_len hb).2⟩) hd.namel)
        have HC := Lib.hid (show d.stroke.ch.length ≤ 100000000 from hd.chl)
        have hstr := str_list s
        have hstr2 := str_list t
        clear h hd hf HD hfa e1 e2 e3 hb hst hso hne hst2 hcan
        go_enter Try.func51, Try.ntmps51
        go_wp2_with (first | (go_at_call 41; (with_reducible refine HF.out.mono ?_); rintro e w1 ⟨rfl, rfl⟩) | (go_at_call 37; (with_reducible refine HFA.out.mono ?_); rintro e w1 ⟨rfl, rfl⟩) | (go_at_call 54; (with_reducible refine HS.out.mono ?_); rintro e w2 ⟨rfl, h2, K2, z2, B2⟩; have HK2 := Lib.hid K2.any; have HB2 := Lib.hid B2; have F2 := HF0.out.le (Nat.le_of_eq z2.symm); have hch := change_any w2 base i D bN bS ρ d.stroke fb chv h2 F2 (.renames s.data.toList t.data.toList) HP.out HC.out; simp only [Ch.cell, hstr, hstr2] at hch; have HCH := Lib.hid hch; clear h2 K2 B2 F2 hch z2) | (go_at_call 56; (with_reducible refine HCH.out.mono ?_); rintro e w3 ⟨rfl, ρ3, chv3, h3, K3, F3, B3⟩; have H3 := Lib.hid (And.intro h3 (And.intro K3 (And.intro F3 B3))); clear h3 K3 F3 B3) | (go_at_call 57; (with_reducible refine (told_any _ so).mono ?_); rintro e w4 ⟨rfl, rfl⟩))
        go_ret
        obtain ⟨h3, K3, F3, B3⟩ := H3.out
        exact ⟨rfl, ρ3, ⟨fb, bN, bS, chv3, h3⟩, HK2.out.trans K3, F3, HB2.out.trans B3⟩
end Go.Proofs.Ytgkpobajafjdeaa

/- A file's parts put anew. -/
namespace Go.Proofs.Ytgkpobajafjdeaa
open Go.RowKit Go.Maps

/-- The roles of file j. -/
def FRole (i j : Nat) (r : Nat) : Prop := ∃ x, x < 4 ∧ r = ro i (4 + 4 * j + x)
theorem FRole.of {i j x : Nat} (h : x < 4) : FRole i j (ro i (4 + 4 * j + x)) := ⟨x, h, rfl⟩
theorem Keeps.anyF {i j : Nat} {w w' : World} {ρ ρ' : Nat → Nat} (K : Keeps (FRole i j) w ρ w' ρ') : Keeps (fun r => ∃ k, r = ro i k) w ρ w' ρ' := K.mono fun _ ⟨_, _, h⟩ => ⟨_, h⟩
theorem setF_file (d : DM) {j : Nat} (hj : j < d.files.length) (x : FM) : (d.setF j x).file j = x := by
  unfold DM.file DM.setF
  simp [hj]
theorem setF_other (d : DM) {j k : Nat} (h : k ≠ j) (x : FM) : (d.setF j x).file k = d.file k := by
  unfold DM.file DM.setF
  simp only
  rw [List.getElem?_set_ne (fun e => h e.symm)]
/-- A disk whose file j is put anew. -/
theorem DiskD.setFile {w w' : World} {base i D bN bS j : Nat} {ρ ρ' : Nat → Nat} {d : DM} {fb : Nat → Nat} {chv kv uv sv : Value} {x : FM} (h : DiskD w base ρ i D d fb bN bS chv) (hj : j < d.files.length) (K : Keeps (FRole i j) w ρ w' ρ') (hf : FileD w' base ρ' i j (fb j) x kv uv sv) :
    DiskD w' base ρ' i D (d.setF j x) fb bN bS chv := by
  have hn : ∀ y, y < 4 → ¬ FRole i j (ro i y) := fun y hy ⟨z, hz, e⟩ => by unfold ro at e; omega
  refine ⟨h.obj.keep K (hn 0 (by omega)), h.names.same ((K.2 bN h.names.lt).2 (by rw [h.namesr]; exact hn 1 (by omega))), ((K.2 bN h.names.lt).1).trans h.namesr, h.sure.same ((K.2 bS h.sure.lt).2 (by rw [h.surer]; exact hn 2 (by omega))), ((K.2 bS h.sure.lt).1).trans h.surer,
    h.ch.same fun g hg => (K.2 g (h.ch.block hg).2).2 (by rw [h.chr g hg]; exact hn 3 (by omega)), fun g hg => ((K.2 g (h.ch.block hg).2).1).trans (h.chr g hg), fun k hk => ?_, h.lo⟩
  by_cases hkj : k = j
  · subst hkj
    rw [setF_file d hj x]
    exact ⟨kv, uv, sv, hf⟩
  · rw [setF_other d hkj x]
    have hk' : k < d.files.length := by simpa [DM.setF] using hk
    obtain ⟨kv', uv', sv', hf'⟩ := h.files k hk'
    exact ⟨kv', uv', sv', hf'.keep K (fun y hy ⟨z, hz, e⟩ => by unfold ro at e; omega)⟩
/-- A file's list put anew: the step that made the list, then the object's cell. -/
theorem FileD.setSeen {w w1 : World} {base i j b : Nat} {ρ ρ1 : Nat → Nat} {f : FM} {kv uv sv sv' : Value} {s : BS} (h : FileD w base ρ i j b f kv uv sv) (K : Keeps (fun r => r = ro i (7 + 4 * j)) w ρ w1 ρ1) (F : Free w1 ρ1) (ho : One w1 base 5 1 sv' s.length (cB s)) (hr : ∀ g, sv'.ownBlock = some g → ρ1 g = ro i (7 + 4 * j)) :
    w1.heap[b]? = some (.cells #[kv, uv, sv] 77 (0, 0)) ∧ FileD (w1.setCell ⟨b, 2, none⟩ sv') base ρ1 i j b ⟨f.kept, f.units, s⟩ kv uv sv' ∧ Keeps (FRole i j) w ρ (w1.setCell ⟨b, 2, none⟩ sv') ρ1 ∧ Free (w1.setCell ⟨b, 2, none⟩ sv') ρ1 ∧ Below base w1 (w1.setCell ⟨b, 2, none⟩ sv') := by
  have o1 := h.obj.keep K (ro_ne (by omega))
  have k1 := h.kept.keep K (ro_ne (by omega))
  have u1 := h.units.same fun g hg => (K.2 g (h.units.block hg).2).2 (by rw [h.unitr g hg]; exact ro_ne (by omega))
  have ur1 : ∀ g, uv.ownBlock = some g → ρ1 g = ro i (6 + 4 * j) := fun g hg => ((K.2 g (h.units.block hg).2).1).trans (h.unitr g hg)
  have hO := OnlyB.set (OnlyB.refl o1.1) (lt_of_obj o1.1) 2 sv'
  have K2 : Keeps (fun r => r = ro i (4 + 4 * j)) w1 ρ1 (w1.setCell ⟨b, 2, none⟩ sv') ρ1 := Keeps.only ρ1 hO o1.2
  refine ⟨o1.1, ⟨⟨hO.at_ (lt_of_obj o1.1), o1.2⟩, k1.keep K2 (ro_ne (by omega)), u1.same fun g hg => (K2.2 g (u1.block hg).2).2 (by rw [ur1 g hg]; exact ro_ne (by omega)), ur1, ⟨ho.same fun g hg => (K2.2 g (ho.block hg).2).2 (by rw [hr g hg]; exact ro_ne (by omega)), hr⟩, h.lo⟩,
    (K.mono (fun r e => ⟨3, by omega, by rw [e]; congr 1; omega⟩)).trans (K2.mono (fun r e => ⟨0, by omega, by rw [e]; rfl⟩)), F.le (Nat.le_of_eq hO.size.symm), hO.below h.lo⟩
theorem FileD.setKept {w w1 : World} {base i j b : Nat} {ρ ρ1 : Nat → Nat} {f : FM} {kv uv sv kv' : Value} {s : BS} (h : FileD w base ρ i j b f kv uv sv) (K : Keeps (fun r => r = ro i (5 + 4 * j)) w ρ w1 ρ1) (F : Free w1 ρ1) (ho : One w1 base 5 1 kv' s.length (cB s)) (hr : ∀ g, kv'.ownBlock = some g → ρ1 g = ro i (5 + 4 * j)) :
    w1.heap[b]? = some (.cells #[kv, uv, sv] 77 (0, 0)) ∧ FileD (w1.setCell ⟨b, 0, none⟩ kv') base ρ1 i j b ⟨s, f.units, f.seen⟩ kv' uv sv ∧ Keeps (FRole i j) w ρ (w1.setCell ⟨b, 0, none⟩ kv') ρ1 ∧ Free (w1.setCell ⟨b, 0, none⟩ kv') ρ1 ∧ Below base w1 (w1.setCell ⟨b, 0, none⟩ kv') := by
  have o1 := h.obj.keep K (ro_ne (by omega))
  have k1 := h.seen.keep K (ro_ne (by omega))
  have u1 := h.units.same fun g hg => (K.2 g (h.units.block hg).2).2 (by rw [h.unitr g hg]; exact ro_ne (by omega))
  have ur1 : ∀ g, uv.ownBlock = some g → ρ1 g = ro i (6 + 4 * j) := fun g hg => ((K.2 g (h.units.block hg).2).1).trans (h.unitr g hg)
  have hO := OnlyB.set (OnlyB.refl o1.1) (lt_of_obj o1.1) 0 kv'
  have K2 : Keeps (fun r => r = ro i (4 + 4 * j)) w1 ρ1 (w1.setCell ⟨b, 0, none⟩ kv') ρ1 := Keeps.only ρ1 hO o1.2
  refine ⟨o1.1, ⟨⟨hO.at_ (lt_of_obj o1.1), o1.2⟩, ⟨ho.same fun g hg => (K2.2 g (ho.block hg).2).2 (by rw [hr g hg]; exact ro_ne (by omega)), hr⟩, u1.same fun g hg => (K2.2 g (u1.block hg).2).2 (by rw [ur1 g hg]; exact ro_ne (by omega)), ur1, k1.keep K2 (ro_ne (by omega)), h.lo⟩,
    (K.mono (fun r e => ⟨1, by omega, by rw [e]; congr 1; omega⟩)).trans (K2.mono (fun r e => ⟨0, by omega, by rw [e]; rfl⟩)), F.le (Nat.le_of_eq hO.size.symm), hO.below h.lo⟩
theorem FileD.setUnits {w w1 : World} {base i j b : Nat} {ρ ρ1 : Nat → Nat} {f : FM} {kv uv sv uv' : Value} {us : List Un} (h : FileD w base ρ i j b f kv uv sv) (K : Keeps (fun r => r = ro i (6 + 4 * j)) w ρ w1 ρ1) (F : Free w1 ρ1) (ho : One w1 base 89 3 uv' us.length (cU us)) (hr : ∀ g, uv'.ownBlock = some g → ρ1 g = ro i (6 + 4 * j)) :
    w1.heap[b]? = some (.cells #[kv, uv, sv] 77 (0, 0)) ∧ FileD (w1.setCell ⟨b, 1, none⟩ uv') base ρ1 i j b ⟨f.kept, us, f.seen⟩ kv uv' sv ∧ Keeps (FRole i j) w ρ (w1.setCell ⟨b, 1, none⟩ uv') ρ1 ∧ Free (w1.setCell ⟨b, 1, none⟩ uv') ρ1 ∧ Below base w1 (w1.setCell ⟨b, 1, none⟩ uv') := by
  have o1 := h.obj.keep K (ro_ne (by omega))
  have k1 := h.seen.keep K (ro_ne (by omega))
  have k2 := h.kept.keep K (ro_ne (by omega))
  have hO := OnlyB.set (OnlyB.refl o1.1) (lt_of_obj o1.1) 1 uv'
  have K2 : Keeps (fun r => r = ro i (4 + 4 * j)) w1 ρ1 (w1.setCell ⟨b, 1, none⟩ uv') ρ1 := Keeps.only ρ1 hO o1.2
  refine ⟨o1.1, ⟨⟨hO.at_ (lt_of_obj o1.1), o1.2⟩, k2.keep K2 (ro_ne (by omega)), ho.same fun g hg => (K2.2 g (ho.block hg).2).2 (by rw [hr g hg]; exact ro_ne (by omega)), hr, k1.keep K2 (ro_ne (by omega)), h.lo⟩,
    (K.mono (fun r e => ⟨2, by omega, by rw [e]; congr 1; omega⟩)).trans (K2.mono (fun r e => ⟨0, by omega, by rw [e]; rfl⟩)), F.le (Nat.le_of_eq hO.size.symm), hO.below h.lo⟩
/-- A new list gets its role. -/
theorem label_new {w w' : World} {base sz n r : Nat} {ρ : Nat → Nat} {e : TypeId} {v : Value} {c : Nat → Value} (hB : Below w.heap.size w w') (hO : One w' w.heap.size e sz v n c) (hb : base ≤ w.heap.size) (hf : Free w ρ) :
    ∃ ρ', Keeps (fun _ => False) w ρ w' ρ' ∧ Free w' ρ' ∧ One w' base e sz v n c ∧ ∀ g, v.ownBlock = some g → ρ' g = r := by
  have hO' : One w' base e sz v n c := by
    rcases hO with k | ⟨g, cap, cur, k1, k2, k3⟩
    · exact .inl k
    · exact .inr ⟨g, cap, cur, k1, by omega, k3⟩
  cases hg : v.ownBlock with
  | none => exact ⟨ρ, Keeps.below _ _ hB, hf.le hB.size, hO', fun g h => by cases h⟩
  | some g =>
    have hbk := hO.block hg
    refine ⟨lab ρ g r, ⟨hB.size, fun k hk => ⟨lab_ne (by omega), fun _ => hB.block k hk⟩⟩, hf.lab hB.size hbk.2 r, hO', fun g' h => ?_⟩
    injection h with h
    subst h
    exact lab_eq
end Go.Proofs.Ytgkpobajafjdeaa

/- Disk.SyncNames. -/
namespace Go.Proofs.Ytgkpobajafjdeaa
open Go.RowKit Go.Maps

theorem chAt_of {w : World} {base cap n : Nat} {fb : Nat → Nat} {A : Option Addr} {cs : List Ch} (h : One w base 98 4 (.slice A n cap) n (cC fb cs)) (hn : cs.length = n) : ChAt w fb A cs := fun k c hk => by
  have hkl : k < cs.length := (List.getElem?_eq_some_iff.1 hk).1
  obtain ⟨g, rfl, _⟩ := h.getN (k := 0) (by omega) (by omega)
  refine ⟨g, 0, rfl, fun j hj => ?_⟩
  obtain ⟨g', e, hc⟩ := h.getN (k := k * 4 + j) (by omega) (by omega)
  injection e with e
  injection e with e
  subst e
  rw [Nat.zero_add, hc, cC_at hj hk]
/-- No changes are left: the object's cell. -/
theorem DiskD.nilCh {w : World} {base i D bN bS : Nat} {ρ : Nat → Nat} {d : DM} {fb : Nat → Nat} {chv : Value} (h : DiskD w base ρ i D d fb bN bS chv) :
    DiskD (w.setCell ⟨D, 4, none⟩ (.slice none 0 0)) base ρ i D { d with ch := [] } fb bN bS (.slice none 0 0) ∧ Keeps (fun r => r = ro i 0) w ρ (w.setCell ⟨D, 4, none⟩ (.slice none 0 0)) ρ ∧ (w.setCell ⟨D, 4, none⟩ (.slice none 0 0)).heap.size = w.heap.size ∧ Below base w (w.setCell ⟨D, 4, none⟩ (.slice none 0 0)) := by
  have hO := OnlyB.set (OnlyB.refl h.obj.1) (lt_of_obj h.obj.1) 4 (.slice none 0 0)
  have K : Keeps (fun r => r = ro i 0) w ρ (w.setCell ⟨D, 4, none⟩ (.slice none 0 0)) ρ := Keeps.only ρ hO h.obj.2
  have e : Obj.cells ((diskC d bN bS chv).setIfInBounds 4 (.slice none 0 0)) 81 (0, 0) = .cells (diskC { d with ch := [] } bN bS (.slice none 0 0)) 81 (0, 0) := rfl
  rw [e] at hO
  obtain ⟨_, p2, p3, p4, p5, _, _, p8⟩ := h.part K
  exact ⟨⟨⟨hO.at_ (lt_of_obj h.obj.1), h.obj.2⟩, p2 (by omega), p3, p4 (by omega), p5, .inl ⟨rfl, rfl⟩, fun g hg => by simp [Value.ownBlock] at hg, p8 (by omega), h.lo⟩, K, hO.size, hO.below h.lo.1⟩
set_option maxRecDepth 100000 in
set_option maxHeartbeats 4000000 in
theorem syncNames_any (w : World) (base i D bN bS : Nat) (ρ : Nat → Nat) (d : DM) (fb : Nat → Nat) (chv : Value) (h : DiskD w base ρ i D d fb bN bS chv) (hi : i < 16) (hF : Free w ρ) (hd : d.Fit) (hP : PlayOk d.sure d.ch) :
    Calls Try.prog 50 #[.pointer (some ⟨D, 0, none⟩)] w (OpEnd base ρ i D d.syncNames w) := by
  have c1 := h.cell 1
  simp only [diskC, List.getElem?_toArray, List.getElem?_cons_zero, List.getElem?_cons_succ] at c1
  cases ho : d.off with
  | true =>
    rw [ho] at c1
    have e : d.syncNames = (d, 45) := by unfold DM.syncNames; rw [ho]; rfl
    rw [e]
    have HE := Lib.hid (h.end0 hF)
    clear h hd hP ho e
    go_enter Try.func50, Try.ntmps50
    go_wp2
    go_ret
    exact ⟨rfl, HE.out⟩
  | false =>
    rw [ho] at c1
    have hst := stroke_any w base i D bN bS ρ d fb chv h hi hd.strokes hd.count
    have e : d.syncNames = (if d.stroke.off then d.stroke else { d.stroke with sure := play d.sure d.ch, ch := [] }, toldN d.stroke.off) := by unfold DM.syncNames; rw [ho]; rfl
    rw [e]
    obtain ⟨so, hso⟩ : ∃ so, d.stroke.off = so := ⟨_, rfl⟩
    unfold StrokeEnd at hst
    rw [hso] at hst ⊢
    have HS := Lib.hid hst
    have HF0 := Lib.hid hF
    have HP := Lib.hid hP
    have HCH := Lib.hid hd.chl
    clear h hd hP ho e hst hso hF
    cases so with
    | true =>
      rw [if_pos rfl]
      go_enter Try.func50, Try.ntmps50
      go_wp2_with (first | (go_at_call 54; (with_reducible refine HS.out.mono ?_); rintro e w2 ⟨rfl, h2, K2, z2, B2⟩) | (go_at_call 57; (with_reducible refine (told_any _ true).mono ?_); rintro e w4 ⟨rfl, rfl⟩))
      go_ret
      exact ⟨rfl, ρ, ⟨fb, bN, bS, chv, h2⟩, K2.any, HF0.out.le (Nat.le_of_eq z2.symm), B2⟩
    | false =>
      rw [if_neg (by decide)]
      go_enter Try.func50, Try.ntmps50
      go_wp2_with (first | (go_at_call 54; (with_reducible refine HS.out.mono ?_); rintro e w2 ⟨rfl, h2, K2, z2, B2⟩))
      obtain ⟨A, cap, rfl, _⟩ := h2.ch.len2
      have hc2 := h2.ch
      have hl2 : d.stroke.ch.length = d.ch.length := rfl
      rw [hl2] at hc2 h2
      obtain ⟨n, hn⟩ : ∃ n, d.ch.length = n := ⟨_, rfl⟩
      have hc2' : One w2 base 98 4 (.slice A n cap) n (cC fb d.ch) := by rw [← hn]; exact hc2
      have u3 := h2.cell 3
      have u4 := h2.cell 4
      rw [hn] at h2 u4
      simp only [diskC, List.getElem?_toArray, List.getElem?_cons_zero, List.getElem?_cons_succ] at u3 u4
      have hA := chAt_of hc2' hn
      have hPl := play_any w2.drew bS n cap fb d.sure A d.ch hn h2.sure hA HP.out (by have := HCH.out; omega)
      have HPL := Lib.hid hPl
      have H2 := Lib.hid h2
      have HK2 := Lib.hid K2.any
      have HB2 := Lib.hid B2
      have HF2 := Lib.hid (HF0.out.le (Nat.le_of_eq z2.symm))
      clear hPl hA hc2' hc2 h2 K2 B2 z2 hl2 hn c1
      refine wp_region_held_drew (S := fun w' => w'.cell? ⟨D, 3, none⟩ = some (.map (some bS)) ∧ w'.cell? ⟨D, 4, none⟩ = some (.slice A n cap)) (by kernel_rfl) ⟨u3, u4⟩ (fun hHeld => ?_)
      refine wpAnyH_take (i := 0) (v := ?_) rfl (by kernel_rfl) (by kernel_rfl) (by kernel_rfl) (fun _ _ _ h => h) (Or.inl ⟨by rfl, fun w hSw => ?_⟩) hHeld ?_
      rotate_left
      · (try dsimp only at hSw); go_split_ands; go_simp <;> with_reducible rfl
      (try simp only [Act.put, List.getElem_toArray, List.getElem_cons_zero, List.setIfInBounds_toArray, List.set_cons_zero, List.set_cons_succ])
      refine wpAnyH_take (i := 1) (v := ?_) rfl (by kernel_rfl) (by kernel_rfl) (by kernel_rfl) (fun _ _ _ h => h) (Or.inl ⟨by rfl, fun w hSw => ?_⟩) hHeld ?_
      rotate_left
      · (try dsimp only at hSw); go_split_ands; go_simp <;> with_reducible rfl
      (try simp only [Act.put, List.getElem_toArray, List.getElem_cons_succ, List.getElem_cons_zero, List.setIfInBounds_toArray, List.set_cons_zero, List.set_cons_succ])
      refine wpAnyH_take (i := 2) (v := ?_) rfl (by kernel_rfl) (by kernel_rfl) (by kernel_rfl) (fun _ _ _ h => h) (Or.inl ⟨by rfl, fun w hSw => ?_⟩) hHeld ?_
      rotate_left
      · (try dsimp only at hSw); go_split_ands; go_simp <;> with_reducible rfl
      (try simp only [Act.put, List.getElem_toArray, List.getElem_cons_succ, List.getElem_cons_zero, List.setIfInBounds_toArray, List.set_cons_zero, List.set_cons_succ])
      refine wpAnyH_take (i := 3) (v := ?_) rfl (by kernel_rfl) (by kernel_rfl) (by kernel_rfl) (fun _ _ _ h => h) (Or.inl ⟨by rfl, fun w hSw => ?_⟩) hHeld ?_
      rotate_left
      · (try dsimp only at hSw); go_split_ands; go_simp <;> with_reducible rfl
      (try simp only [Act.put, List.getElem_toArray, List.getElem_cons_succ, List.getElem_cons_zero, List.setIfInBounds_toArray, List.set_cons_zero, List.set_cons_succ])
      refine wpAnyH_take (i := 4) (v := ?_) rfl (by kernel_rfl) (by kernel_rfl) (by kernel_rfl) (fun _ _ _ h => h) (Or.inl ⟨by rfl, fun w hSw => ?_⟩) hHeld ?_
      rotate_left
      · (try dsimp only at hSw); go_split_ands; go_simp <;> with_reducible rfl
      (try simp only [Act.put, List.getElem_toArray, List.getElem_cons_succ, List.getElem_cons_zero, List.setIfInBounds_toArray, List.set_cons_zero, List.set_cons_succ])
      refine wpAnyH_take (i := 5) (v := ?_) rfl (by kernel_rfl) (by kernel_rfl) (by kernel_rfl) (fun _ _ _ h => h) (Or.inl ⟨by rfl, fun w hSw => ?_⟩) hHeld ?_
      rotate_left
      · (try dsimp only at hSw); go_split_ands; go_simp <;> with_reducible rfl
      (try simp only [Act.put, List.getElem_toArray, List.getElem_cons_succ, List.getElem_cons_zero, List.setIfInBounds_toArray, List.set_cons_zero, List.set_cons_succ])
      refine wpAnyH_take (i := 6) (v := ?_) rfl (by kernel_rfl) (by kernel_rfl) (by kernel_rfl) (fun _ _ _ h => h) (Or.inl ⟨by rfl, fun w hSw => ?_⟩) hHeld ?_
      rotate_left
      · (try dsimp only at hSw); go_split_ands; go_simp <;> with_reducible rfl
      (try simp only [Act.put, List.getElem_toArray, List.getElem_cons_succ, List.getElem_cons_zero, List.setIfInBounds_toArray, List.set_cons_zero, List.set_cons_succ])
      refine wpAnyH_take (i := 7) (v := ?_) rfl (by kernel_rfl) (by kernel_rfl) (by kernel_rfl) (fun _ _ _ h => h) (Or.inl ⟨by rfl, fun w hSw => ?_⟩) hHeld ?_
      rotate_left
      · (try dsimp only at hSw); go_split_ands; go_simp <;> with_reducible rfl
      (try simp only [Act.put, List.getElem_toArray, List.getElem_cons_succ, List.getElem_cons_zero, List.setIfInBounds_toArray, List.set_cons_zero, List.set_cons_succ])
      refine wpAnyH_ready (rs := [8]) (by kernel_rfl) (by simp) (AllReadyH.cons rfl (fun K hK => ?_) AllReadyH.nil)
      go_simp
      go_at_call 45
      (with_reducible refine HPL.out.mono ?_)
      rintro e w5 ⟨rfl, hm5, hg5⟩
      have hd2 := H2.out.below ((Below.refl w2.heap.size w2).drew)
      obtain ⟨h5, K5, B5⟩ := hd2.setSure hm5 hg5
      have v3 := h5.cell 3
      have v4 := h5.cell 4
      have f4 := free_of_obj h5.obj.1 4
      simp only [diskC, List.getElem?_toArray, List.getElem?_cons_zero, List.getElem?_cons_succ] at v3 v4
      obtain ⟨h6, K6, z6, B6⟩ := h5.nilCh
      have H6 := Lib.hid h6
      have HK6 := Lib.hid (((HK2.out.trans (Keeps.below (fun r => ∃ k, r = ro i k) ρ ((Below.refl w2.heap.size w2).drew))).trans K5.any).trans K6.any)
      have HF6 := Lib.hid ((HF2.out.le K5.1).le (Nat.le_of_eq z6.symm))
      have HB6 := Lib.hid (((HB2.out.trans ((Below.refl w2.heap.size w2).drew.mono H2.out.base_le)).trans B5).trans B6)
      refine hK.out _ _ ⟨v3, v4⟩ (fun hHeld => ?_)
      clear hK K h5 K5 B5 hm5 hg5 hd2 h6 K6 z6 B6 v3
      refine wpAnyH_done (by kernel_rfl) ?_ _
      go_wp2_with (go_at_call 57; (with_reducible refine (told_any _ false).mono ?_); rintro e w7 ⟨rfl, rfl⟩)
      go_ret
      exact ⟨rfl, ρ, ⟨fb, bN, bS, _, H6.out⟩, HK6.out, HF6.out, HB6.out⟩
end Go.Proofs.Ytgkpobajafjdeaa

/- Disk.Sync. -/
namespace Go.Proofs.Ytgkpobajafjdeaa
open Go.RowKit Go.Maps

theorem zeroU (w : World) : (zeroValue 89).run Try.prog w = .ok (.agg #[.bool false, .int .u8 0, .int .i64 0]) w := by kernel_rfl
theorem only_cells {w : World} {g : Nat} {t : TypeId} : ∀ (vs : List Value) (o : Nat) {w1 : World} {cur : Array Value}, g < w.heap.size → OnlyB w w1 g (.cells cur t (0, 0)) → ∃ cur', OnlyB w (w1.setCells g o vs) g (.cells cur' t (0, 0)) ∧ cur'.size = cur.size
  | [], _, _, cur, _, h => ⟨cur, h, rfl⟩
  | v :: r, o, w1, cur, hg, h => by
    obtain ⟨cur', h1, h2⟩ := only_cells r (o + 1) hg (h.set hg o v)
    exact ⟨cur', h1, by rw [h2]; simp⟩
set_option maxRecDepth 100000 in
/-- 'clear(units)': the list's block alone is put anew. -/
theorem clear_units (w : World) (g n cap : Nat) (cur : Array Value) (h : w.heap[g]? = some (.cells cur 89 (0, 0))) (hn : n * 3 ≤ cur.size) (ty : TypeId) :
    ∃ w' cur', (Builtin.clear_ #[75] ty #[.slice (some ⟨g, 0, none⟩) n cap]).run Try.prog w = .ok (.tuple #[]) w' ∧ OnlyB w w' g (.cells cur' 89 (0, 0)) ∧ cur'.size = cur.size := by
  rcases Nat.eq_zero_or_pos n with h0 | h0
  · subst h0
    exact ⟨w, cur, by simp [Builtin.clear_, run_underlying Try.underlying75], OnlyB.refl h, rfl⟩
  · obtain ⟨m, rfl⟩ : ∃ m, n = m + 1 := ⟨n - 1, by omega⟩
    have hlen : (Builtin.zeroCells (Value.agg #[.bool false, .int .u8 0, .int .i64 0]).cells (m + 1)).toList.length = (m + 1) * 3 := by simp [Builtin.zeroCells, Value.cells]
    have hone : ∀ v ∈ (Builtin.zeroCells (Value.agg #[.bool false, .int .u8 0, .int .i64 0]).cells (m + 1)).toList, v.oneCell' = true := fun v hv => by
      simp only [Builtin.zeroCells, Value.cells, Array.toList_map, List.mem_map] at hv
      obtain ⟨i, _, rfl⟩ := hv
      have hr : i % 3 < 3 := Nat.mod_lt _ (by omega)
      show (#[Value.bool false, .int .u8 0, .int .i64 0][i % 3]!).oneCell' = true
      generalize i % 3 = r at hr
      rcases r with _ | _ | _ | r
      · rfl
      · rfl
      · rfl
      · omega
    obtain ⟨vs, hvs⟩ : ∃ vs, (Builtin.zeroCells (Value.agg #[.bool false, .int .u8 0, .int .i64 0]).cells (m + 1)).toList = vs := ⟨_, rfl⟩
    have hst := run_storeCells_cells (P := Try.prog) g 0 vs 0 w (fun j hj => by rw [cell_of_obj h, Array.getElem?_eq_getElem (by rw [← hvs, hlen] at hj; omega)]; rfl) (fun j hj => free_of_obj h _) (by rw [← hvs]; exact hone)
    obtain ⟨cur', h1, h2⟩ := only_cells vs 0 (lt_of_obj h) (OnlyB.refl h)
    refine ⟨w.setCells g 0 vs, cur', ?_, h1, h2⟩
    simp only [Nat.add_zero] at hst
    simp [Builtin.clear_, run_underlying Try.underlying75, Result.andThen, hvs, hst]
set_option maxRecDepth 100000 in
/-- 'clear' of a list of one's own, and the list cut to nothing. -/
theorem clear_any (w : World) (base n cap : Nat) (us : List Un) (A : Option Addr) (h : One w base 89 3 (.slice A n cap) n (cU us)) (ty : TypeId) :
    (∀ w', (Instr.slice 75 (.slice A n cap) none (some (.int .i64 0)) none).run Try.prog w' = .ok (.slice A 0 cap) w') ∧ ∃ w', (Builtin.clear_ #[75] ty #[.slice A n cap]).run Try.prog w = .ok (.tuple #[]) w' ∧ One w' base 89 3 (.slice A 0 cap) 0 (cU []) ∧ w'.heap.size = w.heap.size ∧ Below base w w' ∧
      ∀ (ρ : Nat → Nat) (r : Nat), (∀ g, (Value.slice A n cap).ownBlock = some g → ρ g = r) → Keeps (fun x => x = r) w ρ w' ρ := by
  rcases h with ⟨h1, rfl⟩ | ⟨g, cap', cur, h1, h2, h3, h4, h5, h6, h7⟩
  · injection h1 with h1 _ h8
    subst h1
    subst h8
    refine ⟨fun w' => ?_, w, by simp [Builtin.clear_, run_underlying Try.underlying75], .inl ⟨rfl, rfl⟩, rfl, Below.refl _ _, fun ρ r _ => Keeps.refl _ _ _⟩
    rw [run_slice_h w' 75 none 0 0 Try.underlying75 .i64 0 (by omega) (by omega)]
    rfl
  · injection h1 with h1 _ h8
    subst h1
    subst h8
    obtain ⟨w', cur', k1, k2, k3⟩ := clear_units w g n cap cur h3 (by rw [h6]; exact Nat.mul_le_mul_right 3 h4) ty
    refine ⟨fun w'' => ?_, w', k1, .inr ⟨g, cap, cur', rfl, h2, k2.at_ (lt_of_obj h3), Nat.zero_le _, h5, by rw [k3]; exact h6, fun k hk => by omega⟩, k2.size, k2.below h2, fun ρ r hr => ?_⟩
    · rw [run_slice_h w'' 75 (some ⟨g, 0, none⟩) n cap Try.underlying75 .i64 0 (by omega) (by omega)]
      have hz : ((sizeOf (Try.prog.elem 75)).run Try.prog w'') = .ok 3 w'' := by kernel_rfl
      rw [hz]
      simp [Result.andThen, sliced, Addr.add]
    · exact Keeps.only ρ k2 (hr g rfl)
end Go.Proofs.Ytgkpobajafjdeaa

/- Disk.Sync. -/
namespace Go.Proofs.Ytgkpobajafjdeaa
open Go.RowKit Go.Maps

theorem wpList_clear_by {P : Program} {w : World} {ops : Array Oper} {rest : List Oper} {o : Oper} {a : Act} {Q : Exit → Act → World → Prop} (hgd : o.guard = none) (s : Operand) (t : TypeId)
    (ho : o.op = .call { callee := .builtin .clear, args := #[s], argTypes := #[t] }) {vs v' : Value} {w' : World} (hs : a.eval s = vs)
    (hr : (Builtin.clear_ #[t] o.type #[vs]).run P w = .ok v' w') (h : wpList P ops Q rest (a.put o.dst v') w') : wpList P ops Q (o :: rest) a w :=
  wpList_plain hgd fun _ hK => by
    unfold Oper.wp execOp
    simp only [ho, resolve, invoke, builtin, Sem.run_bind, Sem.run_pure, Result.andThen_ok, List.map_toArray, List.map_cons, List.map_nil, hs, hr]
    exact hK _ _ h
theorem One.nil_len {w : World} {base sz n cap : Nat} {e : TypeId} {A : Option Addr} {c : Nat → Value} (h : One w base e sz (.slice A n cap) n c) (hA : A = none) : n = 0 ∧ cap = 0 := by
  subst hA
  rcases h with ⟨h1, h2⟩ | ⟨g, cap', cur, h1, _⟩
  · injection h1 with _ h3 h4
    exact ⟨h3, h4⟩
  · injection h1 with h1
    cases h1
set_option maxRecDepth 100000 in
set_option maxHeartbeats 4000000 in
theorem sync_any (w : World) (base i D bN bS : Nat) (ρ : Nat → Nat) (d : DM) (fb : Nat → Nat) (chv : Value) (h : DiskD w base ρ i D d fb bN bS chv) (hi : i < 16) (hF : Free w ρ) (hd : d.Fit) (s : ByteArray) (hs : s.size ≤ maxLen) (hm : (d.bytes s.data.toList).length ≤ 140737488351232) :
    Calls Try.prog 49 #[.pointer (some ⟨D, 0, none⟩), .string s] w (OpEnd base ρ i D (d.sync s.data.toList) w) := by
  have hf := find_any w base i D bN bS ρ d fb chv h s hs
  rcases find_cases d fb s.data.toList with ⟨e1, e2, e3⟩ | ⟨e1, f, e2, e3⟩
  · have er : d.sync s.data.toList = (d, d.err s.data.toList) := by
      unfold DM.sync
      split
      · rename_i q _; exact absurd q e1
      · rfl
    rw [er]
    rw [e2] at hf
    obtain ⟨er, her⟩ : ∃ er, d.err s.data.toList = er := ⟨_, rfl⟩
    rw [her] at hf e1 ⊢
    have q1 : (er != 0) = true := by simp [bne, e1]
    have HE := Lib.hid (h.end0 hF)
    have HF := Lib.hid hf
    clear h hf e1 e2 e3 her hd hm
    go_enter Try.func49, Try.ntmps49
    go_wp2_with (go_at_call 41; (with_reducible refine HF.out.mono ?_); rintro e w1 ⟨rfl, rfl⟩)
    go_ret
    exact ⟨rfl, HE.out⟩
  · have er : d.sync s.data.toList = (if d.stroke.off then d.stroke else d.stroke.setF f ⟨(d.file f).seen, [], (d.file f).seen⟩, toldN d.stroke.off) := by unfold DM.sync; rw [e1, e2]; rfl
    rw [er]
    rw [e3, e1] at hf
    rw [bytes_some e1 e2] at hm
    have hfl : f < d.files.length := hd.idx _ (NM.get_mem e2)
    have hst := stroke_any w base i D bN bS ρ d fb chv h hi hd.strokes hd.count
    obtain ⟨so, hso⟩ : ∃ so, d.stroke.off = so := ⟨_, rfl⟩
    unfold StrokeEnd at hst
    rw [hso] at hst ⊢
    have HS := Lib.hid hst
    have HF := Lib.hid hf
    have HF0 := Lib.hid hF
    have HM := Lib.hid hm
    have HFL := Lib.hid hfl
    clear h hf e1 e2 e3 hd hst hso hm hfl er hF
    cases so with
    | true =>
      rw [if_pos rfl]
      go_enter Try.func49, Try.ntmps49
      go_wp2_with (first | (go_at_call 41; (with_reducible refine HF.out.mono ?_); rintro e w1 ⟨rfl, rfl⟩) | (go_at_call 54; (with_reducible refine HS.out.mono ?_); rintro e w2 ⟨rfl, h2, K2, z2, B2⟩) | (go_at_call 57; (with_reducible refine (told_any _ true).mono ?_); rintro e w4 ⟨rfl, rfl⟩))
      go_ret
      exact ⟨rfl, ρ, ⟨fb, bN, bS, chv, h2⟩, K2.any, HF0.out.le (Nat.le_of_eq z2.symm), B2⟩
    | false =>
      rw [if_neg (by decide)]
      go_enter Try.func49, Try.ntmps49
      go_wp2_with (first
        | (go_at_call 41; (with_reducible refine HF.out.mono ?_); rintro e w1 ⟨rfl, rfl⟩)
        | (go_at_call 54; (with_reducible refine HS.out.mono ?_); rintro e w2 ⟨rfl, h2, K2, z2, B2⟩; obtain ⟨kv, uv, sv, hfd⟩ := h2.files f HFL.out; obtain ⟨A, cap, rfl, _⟩ := hfd.seen.len; obtain ⟨A1, cap1, rfl, _⟩ := hfd.units.len2; have hcl := clone_any w2 A _ cap _ rfl hfd.seen.1.src hfd.seen.1.nil_len HM.out; have HCL := Lib.hid hcl; have HFD := Lib.hid hfd; have s2 := cell_of_obj hfd.obj.1 2; simp only [List.getElem?_toArray, List.getElem?_cons_zero, List.getElem?_cons_succ] at s2; have H2 := Lib.hid (And.intro h2 (And.intro K2 (And.intro B2 (HF0.out.le (Nat.le_of_eq z2.symm))))); clear hcl hfd h2 K2 z2 B2)
        | (go_at_call 38; (with_reducible refine HCL.out.mono ?_); rintro e w3 ⟨A3, cap3, rfl, T3⟩; obtain ⟨ρ3, K3, F3, O3, L3⟩ := label_new (r := ro i (5 + 4 * f)) T3.2 T3.1 H2.out.1.base_le H2.out.2.2.2; obtain ⟨ob3, fd4, K4, F4, B4⟩ := HFD.out.setKept (K3.mono fun _ hx => hx.elim) F3 O3 L3; have s0 := cell_of_obj ob3 0; have f0 := free_of_obj ob3 0; have s1 := cell_of_obj fd4.obj.1 1; simp only [List.getElem?_toArray, List.getElem?_cons_zero, List.getElem?_cons_succ] at s0 s1; obtain ⟨hsl, w5, hrc, ou5, z5, B5, hK5⟩ := clear_any _ base _ cap1 _ A1 fd4.units 0; have HR5 := Lib.hid hrc; have K5 := hK5 ρ3 _ fd4.unitr; obtain ⟨ob5, fd6, K6, F6, B6⟩ := fd4.setUnits (us := []) K5 (F4.le (Nat.le_of_eq z5.symm)) ou5 (fun g hg => fd4.unitr g (by cases A1 <;> exact hg)); have t1 := cell_of_obj ob5 1; have u1 := free_of_obj ob5 1; simp only [List.getElem?_toArray, List.getElem?_cons_zero, List.getElem?_cons_succ] at t1; have HE := Lib.hid (And.intro fd6 (And.intro K4 (And.intro K6 (And.intro F6 (And.intro B4 (And.intro B5 B6)))))); clear hK5 hrc fd6 K6 F6 B6 fd4 K4 F4 B4 K5 ob3 ob5 ou5 K3 F3 O3 L3)
        | (refine wpList_clear_by rfl (.tmp 33) 75 rfl rfl HR5.out ?_)
        | (go_at_call 57; (with_reducible refine (told_any _ false).mono ?_); rintro e w7 ⟨rfl, rfl⟩))
      go_ret
      obtain ⟨h2, K2, B2, F2⟩ := H2.out
      obtain ⟨fd6, K4, K6, F6, B4, B5, B6⟩ := HE.out
      have h7 := h2.setFile (x := ⟨(d.file f).seen, [], (d.file f).seen⟩) HFL.out (K4.trans K6) fd6
      exact ⟨rfl, ρ3, ⟨fb, bN, bS, chv, h7⟩, (K2.any.trans (K4.trans K6).anyF), F6, B2.trans ((T3.2.mono h2.base_le).trans (B4.trans (B5.trans B6)))⟩
end Go.Proofs.Ytgkpobajafjdeaa

/- Append of one unit to a file's list. -/
namespace Go.Proofs.Ytgkpobajafjdeaa
open Go.RowKit Go.Maps

theorem info_un : (Try.prog.info? 89).map (fun i => (i.zero, i.size, i.bytes)) = some (some (.agg #[.bool false, .int .u8 0, .int .i64 0]), 3, 16) := by kernel_rfl
theorem Un.cell_one (u : Un) (k : Nat) (hk : k < 3) : (u.cell k).oneCell' = true := by
  cases u <;> (rcases k with _ | _ | _ | k <;> first | rfl | omega)
theorem cU_old (us : List Un) (u : Un) (k : Nat) (hk : k < us.length * 3) : cU us k = cU (us ++ [u]) k := by
  unfold cU
  rw [List.getElem?_append_left (by omega)]
theorem cU_new (us : List Un) (u : Un) (k : Nat) (hk : k < 3) : cU (us ++ [u]) (us.length * 3 + k) = u.cell k := by
  rw [cU_at (u := u) hk (by simp)]
theorem un_fill (b : Bool) (x n : Int) : Instr.fill (fun i => some (i * 3, 3)) ((Array.range (1 * 3)).map ((Value.agg #[.bool false, .int .u8 0, .int .i64 0]).cells[· % (Value.agg #[.bool false, .int .u8 0, .int .i64 0]).cells.size]!)) [(0, .agg #[.bool b, .int .u8 x, .int .i64 n])] = some #[.bool b, .int .u8 x, .int .i64 n] := by kernel_rfl
/-- Append of one unit. -/
theorem append_un (w : World) (base ty : Nat) (v0 : Value) (us : List Un) (u : Un) (h0 : One w base 89 3 v0 us.length (cU us)) (b : Nat) (hb : w.heap[b]? = some (.cells #[u.cell 0, u.cell 1, u.cell 2] 89 (0, 0))) (hn : us.length ≤ 1000000000000) (hbase : base ≤ w.heap.size) :
    ∃ v' w', (Builtin.append_ #[75, 75] ty #[v0, .slice (some ⟨b, 0, none⟩) 1 1]).run Try.prog w = .ok v' w' ∧ One w' base 89 3 v' (us ++ [u]).length (cU (us ++ [u])) ∧ w.grownBy w' v0.ownBlock ∧ (v'.ownBlock = v0.ownBlock ∨ v'.ownBlock = some w.heap.size) := by
  obtain ⟨k0, hkk, kz0, kz1, kz2⟩ := info_parts info_un
  have hown := (h0.congr (fun k hk => cU_old us u k hk)).own
  obtain ⟨v', w', r1, r2, r3, _, r5⟩ := run_append_own_at (P := Try.prog) (w := w) base 75 ty 89 k0 (.agg #[.bool false, .int .u8 0, .int .i64 0]) 3 16 Try.underlying75 hkk kz0 kz1 kz2 rfl (by decide) v0 _ _ hown ⟨b, 0, none⟩ 1 1 [u.cell 0, u.cell 1, u.cell 2] rfl
    (World.news_of_block hb) (by intro x hx; simp at hx; rcases hx with rfl | rfl | rfl <;> exact Un.cell_one u _ (by omega)) (by unfold maxLen; omega) (by omega) hbase
  refine ⟨v', w', r1, ?_, r3, r5⟩
  rw [List.length_append]
  refine One.of ?_
  have e : (List.range (us.length * 3)).map (cU (us ++ [u])) ++ [u.cell 0, u.cell 1, u.cell 2] = (List.range ((us.length + [u].length) * 3)).map (cU (us ++ [u])) := by
    have n0 := cU_new us u 0 (by omega)
    have n1 := cU_new us u 1 (by omega)
    have n2 := cU_new us u 2 (by omega)
    rw [show (us.length + [u].length) * 3 = us.length * 3 + 1 + 1 + 1 by simp; omega, List.range_succ, List.range_succ, List.range_succ]
    simp only [List.map_append, List.map_cons, List.map_nil, List.append_assoc, List.cons_append, List.nil_append]
    rw [← n0, ← n1, ← n2]
    rfl
  rw [← e]
  exact r2
/-- One unit more in a file: the list's block, then the object's cell. -/
theorem unit_add (w : World) (base i j b ty : Nat) (ρ : Nat → Nat) (f : FM) (kv uv sv : Value) (h : FileD w base ρ i j b f kv uv sv) (hF : Free w ρ) (u : Un) (x0 x1 x2 : Value) (e0 : u.cell 0 = x0) (e1 : u.cell 1 = x1) (e2 : u.cell 2 = x2) (hn : f.units.length ≤ 1000000000000) (hb : base ≤ w.heap.size) :
    ∃ A' cap' w3 ρ3, (Builtin.append_ #[75, 75] ty #[uv, .slice (some ⟨w.heap.size, 0, none⟩) 1 1]).run Try.prog (w.alloc (.cells #[x0, x1, x2] 89)) = .ok (.slice A' (f.units.length + 1) cap') w3 ∧
      w3.heap[b]? = some (.cells #[kv, uv, sv] 77 (0, 0)) ∧ FileD (w3.setCell ⟨b, 1, none⟩ (.slice A' (f.units.length + 1) cap')) base ρ3 i j b ⟨f.kept, f.units ++ [u], f.seen⟩ kv (.slice A' (f.units.length + 1) cap') sv ∧
      Keeps (FRole i j) w ρ (w3.setCell ⟨b, 1, none⟩ (.slice A' (f.units.length + 1) cap')) ρ3 ∧ Free (w3.setCell ⟨b, 1, none⟩ (.slice A' (f.units.length + 1) cap')) ρ3 ∧ Below base w (w3.setCell ⟨b, 1, none⟩ (.slice A' (f.units.length + 1) cap')) := by
  subst e0 e1 e2
  have hb1 : Below w.heap.size w (w.alloc (.cells #[u.cell 0, u.cell 1, u.cell 2] 89)) := (Below.refl _ _).alloc (Nat.le_refl _) _
  have h1 := h.keep (Keeps.below (fun _ => False) ρ hb1) (fun _ _ => id)
  obtain ⟨v', w3, r3, o3, g3, a3⟩ := append_un _ base ty uv f.units u h1.units w.heap.size (heap_alloc_new w _) hn (Nat.le_trans hb hb1.size)
  obtain ⟨A', cap', rfl, _⟩ := o3.len2
  have hl : (f.units ++ [u]).length = f.units.length + 1 := by simp
  rw [hl] at r3 o3 a3
  obtain ⟨ρ3, K3, F3, hr3⟩ := grown_lab (r := ro i (6 + 4 * j)) g3 h1.unitr a3 (fun g hg => (o3.block hg).2) (hF.le hb1.size)
  obtain ⟨q1, q2, q3, q4, q5⟩ := h1.setUnits (us := f.units ++ [u]) K3 F3 (by rw [hl]; exact o3) hr3
  have hb3 : Below base (w.alloc (.cells #[u.cell 0, u.cell 1, u.cell 2] 89)) w3 := below_grown g3 (fun g e => (h1.units.block e).1) (Nat.le_trans hb hb1.size)
  exact ⟨A', cap', w3, ρ3, r3, q1, q2, (Keeps.below (FRole i j) ρ hb1).trans q3, q4, (hb1.mono hb).trans (hb3.trans q5)⟩
end Go.Proofs.Ytgkpobajafjdeaa

/- Disk.Cut. -/
namespace Go.Proofs.Ytgkpobajafjdeaa
open Go.RowKit Go.Maps

theorem One.firsts {w : World} {base sz n m cap : Nat} {e : TypeId} {A : Option Addr} {c : Nat → Value} (h : One w base e sz (.slice A n cap) n c) (hm : m ≤ n) : One w base e sz (.slice A m cap) m c := by
  rcases h with ⟨h1, h2⟩ | ⟨g, cap', cur, h1, h2, h3, h4, h5, h6, h7⟩
  · injection h1 with k1 _ k3
    subst k1 k3
    obtain rfl : m = 0 := by omega
    exact .inl ⟨rfl, rfl⟩
  · injection h1 with k1 _ k3
    subst k1 k3
    exact .inr ⟨g, cap, cur, rfl, h2, h3, by omega, h5, h6, fun k hk => h7 k (Nat.lt_of_lt_of_le hk (Nat.mul_le_mul_right sz hm))⟩
theorem cB_take (b : BS) (m k : Nat) (hk : k < m) : cB b k = cB (b.take m) k := by
  unfold cB
  rw [List.getElem?_take_of_lt hk]
set_option maxRecDepth 100000 in
set_option maxHeartbeats 4000000 in
theorem cut_any (w : World) (base i D bN bS : Nat) (ρ : Nat → Nat) (d : DM) (fb : Nat → Nat) (chv : Value) (h : DiskD w base ρ i D d fb bN bS chv) (hi : i < 16) (hF : Free w ρ) (hd : d.Fit) (s : ByteArray) (hs : s.size ≤ maxLen) (n : Int) (hm : (d.bytes s.data.toList).length ≤ 140737488351232)
    (hu : ∀ f, d.names.get s.data.toList = some f → (d.file f).units.length ≤ 1000000000000) :
    Calls Try.prog 48 #[.pointer (some ⟨D, 0, none⟩), .string s, .int .i64 n] w (OpEnd base ρ i D (d.cut s.data.toList n) w) := by
  have hf := find_any w base i D bN bS ρ d fb chv h s hs
  rcases find_cases d fb s.data.toList with ⟨e1, e2, e3⟩ | ⟨e1, f, e2, e3⟩
  · have er : d.cut s.data.toList n = (d, d.err s.data.toList) := by
      unfold DM.cut
      split
      · rename_i q _; exact absurd q e1
      · rfl
    rw [er]
    rw [e2] at hf
    obtain ⟨er, her⟩ : ∃ er, d.err s.data.toList = er := ⟨_, rfl⟩
    rw [her] at hf e1 ⊢
    have q1 : (er != 0) = true := by simp [bne, e1]
    have HE := Lib.hid (h.end0 hF)
    have HF := Lib.hid hf
    clear h hf e1 e2 e3 her hd hm hu
    go_enter Try.func48, Try.ntmps48
    go_wp2_with (go_at_call 41; (with_reducible refine HF.out.mono ?_); rintro e w1 ⟨rfl, rfl⟩)
    go_ret
    exact ⟨rfl, HE.out⟩
  · have er : d.cut s.data.toList n = (if n < 0 ∨ ((d.file f).seen.length : Int) < n then (d, 43) else (if n < ((d.file f).seen.length : Int) then d.stroke.setF f ⟨(d.file f).kept, (d.file f).units ++ [.cut n.toNat], (d.file f).seen.take n.toNat⟩ else d.stroke, toldN d.stroke.off)) := by unfold DM.cut; rw [e1, e2]; rfl
    rw [er]
    rw [e3, e1] at hf
    rw [bytes_some e1 e2] at hm
    have hul := hu f e2
    have hfl : f < d.files.length := hd.idx _ (NM.get_mem e2)
    obtain ⟨kv, uv, sv, hfd⟩ := h.files f hfl
    obtain ⟨A, cap, rfl, hcap⟩ := hfd.seen.len
    have s2 := cell_of_obj hfd.obj.1 2
    simp only [List.getElem?_toArray, List.getElem?_cons_zero, List.getElem?_cons_succ] at s2
    have hst := stroke_any w base i D bN bS ρ d fb chv h hi hd.strokes hd.count
    obtain ⟨so, hso⟩ : ∃ so, d.stroke.off = so := ⟨_, rfl⟩
    unfold StrokeEnd at hst
    rw [hso] at hst ⊢
    have HE := Lib.hid (h.end0 hF)
    have HS := Lib.hid hst
    have HF := Lib.hid hf
    have HF0 := Lib.hid hF
    have HM := Lib.hid hm
    have HFL := Lib.hid hfl
    have HFD := Lib.hid hfd
    have HUL := Lib.hid hul
    clear h hf e1 e2 e3 hd hst hso hfl er hF hu hfd hul
    rcases Int.lt_or_le n 0 with hn0 | hn0
    · rw [if_pos (.inl hn0)]
      have t1 : decide (n < 0) = true := by simpa using hn0
      go_enter Try.func48, Try.ntmps48
      go_wp2_with (go_at_call 41; (with_reducible refine HF.out.mono ?_); rintro e w1 ⟨rfl, rfl⟩)
      go_ret
      exact ⟨rfl, HE.out⟩
    · have t1 : decide (n < 0) = false := by simpa using hn0
      rcases Int.lt_or_le ((d.file f).seen.length : Int) n with hn1 | hn1
      · rw [if_pos (.inr hn1)]
        have t2 : decide (((d.file f).seen.length : Int) < n) = true := by simpa using hn1
        go_enter Try.func48, Try.ntmps48
        go_wp2_with (go_at_call 41; (with_reducible refine HF.out.mono ?_); rintro e w1 ⟨rfl, rfl⟩)
        go_ret
        exact ⟨rfl, HE.out⟩
      · have t2 : decide (((d.file f).seen.length : Int) < n) = false := by simpa using hn1
        rw [if_neg (by omega)]
        rcases Int.lt_or_le n ((d.file f).seen.length : Int) with hn2 | hn2
        · obtain ⟨m, rfl⟩ := Int.eq_ofNat_of_zero_le hn0
          have t3 : decide ((m : Int) < ((d.file f).seen.length : Int)) = true := by simpa using hn2
          have t4 : decide (m < (d.file f).seen.length) = true := by simpa using hn2
          have t5 : decide ((d.file f).seen.length < m) = false := by simpa using hn1
          rw [if_pos hn2]
          have hsl : ∀ w', (Instr.slice 26 (.slice A (d.file f).seen.length cap) none (some (.int .i64 (m : Int))) none).run Try.prog w' = .ok (.slice A m cap) w' := fun w' => by
            obtain ⟨g, cp, e, _⟩ := HFD.out.seen.1.pos (by omega)
            injection e with e _ _
            subst e
            rw [run_slice_h w' 26 (some ⟨g, 0, none⟩) _ cap Try.underlying26 .i64 (m : Int) (by omega) (by omega)]
            have hz : ((sizeOf (Try.prog.elem 26)).run Try.prog w') = .ok 1 w' := by kernel_rfl
            rw [hz]
            simp [Result.andThen, sliced, Addr.add]
          obtain ⟨k0, hkk, kz0, kz1, kz2⟩ := info_parts info_un
          have HLEN := Lib.hid (show ((d.file f).seen.take m).length = m by rw [List.length_take]; omega)
          have HML := Lib.hid (show m ≤ (d.file f).seen.length by omega)
          clear hn0 hn1 hn2
          go_enter Try.func48, Try.ntmps48
          go_wp2_with (first
            | (go_at_call 41; (with_reducible refine HF.out.mono ?_); rintro e w1 ⟨rfl, rfl⟩)
            | (go_at_call 54; (with_reducible refine HS.out.mono ?_); rintro e w2 ⟨rfl, h2, K2, z2, B2⟩; have hf2 := HFD.out.keep K2 (fun x hx => ro_ne (by omega)); have r1 := cell_of_obj hf2.obj.1 1; have r2 := cell_of_obj hf2.obj.1 2; simp only [List.getElem?_toArray, List.getElem?_cons_zero, List.getElem?_cons_succ] at r1 r2; obtain ⟨A', cap', w3, ρ3, hr3, ob3, hf3, K3, F3, B3⟩ := unit_add w2 base i f (fb f) 75 ρ _ _ _ _ hf2 (HF0.out.le (Nat.le_of_eq z2.symm)) (.cut m) (.bool true) (.int .u8 0) (.int .i64 (m : Int)) rfl rfl rfl HUL.out h2.base_le; have HR3 := Lib.hid hr3; have r3 := cell_of_obj ob3 1; have f3 := free_of_obj ob3 1; have r4 := cell_of_obj hf3.obj.1 2; have f4 := free_of_obj hf3.obj.1 2; simp only [List.getElem?_toArray, List.getElem?_cons_zero, List.getElem?_cons_succ] at r3 r4; have HZ := Lib.hid (And.intro h2 (And.intro K2 (And.intro B2 (And.intro hf3 (And.intro K3 (And.intro F3 B3)))))); clear hr3 ob3 hf3 K3 F3 B3 h2 K2 B2 hf2 z2)
            | (refine wpList_buildSlice rfl 75 89 1 #[(0, .tmp 45)] rfl #[.bool true, .int .u8 0, .int .i64 (m : Int)] k0 (.agg #[.bool false, .int .u8 0, .int .i64 0]) Try.underlying75 hkk kz0 (by rw [kz1]; decide) (by rw [kz1]; decide) (by rw [kz1]; refine Eq.trans (congrArg (Instr.fill _ _) ?_) (un_fill true 0 m); simp only [List.map_toArray, List.map_cons, List.map_nil, Act.eval]; rfl) ?_)
            | (refine wpList_append_by (vs := uv) (vx := .slice (some ⟨w2.heap.size, 0, none⟩) 1 1) rfl (.tmp 43) (.tmp 46) 75 rfl rfl rfl HR3.out ?_)
            | (go_at_call 57; (with_reducible refine (told_any _ so).mono ?_); rintro e w4 ⟨rfl, rfl⟩))
          go_ret
          obtain ⟨h2, K2, B2, hf3, K3, F3, B3⟩ := HZ.out
          obtain ⟨_, hf5, K5, F5, B5⟩ := hf3.setSeen (s := (d.file f).seen.take m) (sv' := .slice A m cap) (Keeps.refl _ _ _) F3 (by rw [HLEN.out]; exact (hf3.seen.1.firsts HML.out).congr fun k hk => cB_take _ m k (by rwa [Nat.mul_one] at hk)) (fun g hg => hf3.seen.2 g (by cases A <;> exact hg))
          exact ⟨rfl, ρ3, ⟨fb, bN, bS, chv, h2.setFile HFL.out (K3.trans K5) hf5⟩, K2.any.trans (K3.trans K5).anyF, F5, B2.trans (B3.trans B5)⟩
        · have t3 : decide (n < ((d.file f).seen.length : Int)) = false := by simpa using hn2
          rw [if_neg (by omega)]
          go_enter Try.func48, Try.ntmps48
          go_wp2_with (first | (go_at_call 41; (with_reducible refine HF.out.mono ?_); rintro e w1 ⟨rfl, rfl⟩) | (go_at_call 54; (with_reducible refine HS.out.mono ?_); rintro e w2 ⟨rfl, h2, K2, z2, B2⟩; have s2' := cell_of_obj (HFD.out.obj.keep K2 (ro_ne (by omega))).1 2; simp only [List.getElem?_toArray, List.getElem?_cons_zero, List.getElem?_cons_succ] at s2') | (go_at_call 57; (with_reducible refine (told_any _ so).mono ?_); rintro e w4 ⟨rfl, rfl⟩))
          go_ret
          exact ⟨rfl, ρ, ⟨fb, bN, bS, chv, h2⟩, K2.any, HF0.out.le (Nat.le_of_eq z2.symm), B2⟩
end Go.Proofs.Ytgkpobajafjdeaa

/- A new file on a disk in memory. -/
namespace Go.Proofs.Ytgkpobajafjdeaa
open Go.RowKit Go.Maps

/-- The blocks of the files, with one more. -/
def fbMore (fb : Nat → Nat) (n b : Nat) : Nat → Nat := fun k => if k = n then b else fb k
theorem fbMore_old {fb : Nat → Nat} {n b k : Nat} (h : k < n) : fbMore fb n b k = fb k := by
  unfold fbMore
  rw [if_neg (by omega)]
theorem fbMore_new {fb : Nat → Nat} {n b : Nat} : fbMore fb n b n = b := if_pos rfl
/-- All files that the changes name are there. -/
def ChIdx (cs : List Ch) (n : Nat) : Prop := ∀ m f, Ch.makes m f ∈ cs → f < n
theorem cell_more {fb : Nat → Nat} {n b : Nat} {cs : List Ch} (hc : ChIdx cs n) {c : Ch} (h : c ∈ cs) (j : Nat) : c.cell fb j = c.cell (fbMore fb n b) j := by
  cases c with
  | makes m f =>
    have := hc m f h
    rcases j with _ | _ | _ | j <;> try rfl
    show Value.pointer (some ⟨fb f, 0, none⟩) = Value.pointer (some ⟨fbMore fb n b f, 0, none⟩)
    rw [fbMore_old this]
  | renames _ _ => rcases j with _ | _ | _ | j <;> rfl
  | removes _ => rcases j with _ | _ | _ | j <;> rfl
theorem cC_more {fb : Nat → Nat} {n b : Nat} {cs : List Ch} (hc : ChIdx cs n) (k : Nat) (hk : k < cs.length * 4) : cC fb cs k = cC (fbMore fb n b) cs k := by
  have hl : k / 4 < cs.length := by omega
  unfold cC
  rw [List.getElem?_eq_getElem hl]
  exact cell_more hc (List.getElem_mem hl) _
theorem DiskD.addFile {w : World} {base i D bN bS : Nat} {ρ : Nat → Nat} {d : DM} {fb : Nat → Nat} {chv : Value} (h : DiskD w base ρ i D d fb bN bS chv) (hF : Free w ρ) (hn : ∀ p ∈ d.names, p.2 < d.files.length) (hs : ∀ p ∈ d.sure, p.2 < d.files.length) (hc : ChIdx d.ch d.files.length) :
    ∃ ρ', DiskD (w.alloc (.cells #[.slice none 0 0, .slice none 0 0, .slice none 0 0] 77)) base ρ' i D { d with files := d.files ++ [⟨[], [], []⟩] } (fbMore fb d.files.length w.heap.size) bN bS chv ∧
      Keeps (fun r => ∃ k, r = ro i k) w ρ (w.alloc (.cells #[.slice none 0 0, .slice none 0 0, .slice none 0 0] 77)) ρ' ∧ Free (w.alloc (.cells #[.slice none 0 0, .slice none 0 0, .slice none 0 0] 77)) ρ' ∧ Below base w (w.alloc (.cells #[.slice none 0 0, .slice none 0 0, .slice none 0 0] 77)) := by
  have hb := (Below.refl w.heap.size w).alloc (Nat.le_refl _) (.cells #[.slice none 0 0, .slice none 0 0, .slice none 0 0] 77)
  have hlt : w.heap.size < (w.alloc (.cells #[.slice none 0 0, .slice none 0 0, .slice none 0 0] 77)).heap.size := by simp
  have K : Keeps (fun _ => False) w ρ (w.alloc (.cells #[.slice none 0 0, .slice none 0 0, .slice none 0 0] 77)) (lab ρ w.heap.size (ro i (4 + 4 * d.files.length))) := ⟨hb.size, fun k hk => ⟨lab_ne (by omega), fun _ => hb.block k hk⟩⟩
  have h1 := h.keep K (fun _ => id)
  have hobj := heap_alloc_new w (.cells #[.slice none 0 0, .slice none 0 0, .slice none 0 0] 77)
  refine ⟨lab ρ w.heap.size (ro i (4 + 4 * d.files.length)), ⟨h1.obj, h1.names.congr fun p hp => (fbMore_old (hn p hp)).symm, h1.namesr, h1.sure.congr fun p hp => (fbMore_old (hs p hp)).symm, h1.surer, h1.ch.congr fun k hk => cC_more hc k hk, h1.chr, fun j hj => ?_, h1.lo⟩, K.mono (fun _ hx => hx.elim), hF.lab hb.size hlt _, hb.mono h.base_le⟩
  have hj' : j < d.files.length + 1 := by simpa using hj
  rcases Nat.lt_or_ge j d.files.length with hjl | hjl
  · obtain ⟨kv, uv, sv, hf⟩ := h1.files j hjl
    rw [fbMore_old hjl]
    have e : ({ d with files := d.files ++ [⟨[], [], []⟩] } : DM).file j = d.file j := by unfold DM.file; simp [List.getElem?_append_left hjl]
    rw [e]
    exact ⟨kv, uv, sv, hf⟩
  · obtain rfl : j = d.files.length := by omega
    rw [fbMore_new]
    have e : ({ d with files := d.files ++ [⟨[], [], []⟩] } : DM).file d.files.length = ⟨[], [], []⟩ := by unfold DM.file; simp
    rw [e]
    exact ⟨_, _, _, ⟨hobj, lab_eq⟩, LstZ.nil _ _ _ _ _ _ _, .inl ⟨rfl, rfl⟩, fun g hg => by simp [Value.ownBlock] at hg, LstZ.nil _ _ _ _ _ _ _, h.base_le⟩
end Go.Proofs.Ytgkpobajafjdeaa
