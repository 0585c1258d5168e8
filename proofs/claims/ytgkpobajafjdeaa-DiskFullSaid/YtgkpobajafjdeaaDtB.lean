/- Two disks in memory; a list of steps whose bytes are no disk's; counted. -/
import Derived.Test.YtgkpobajafjdeaaDtA
namespace Go.Proofs.Ytgkpobajafjdeaa
open Go.RowKit Go.Maps

theorem counted_any (w : World) (e : Int) : Calls Try.prog 33 #[.int .i64 e] w fun x w' => x = .returned (.bool (countedB e)) ∧ w = w' := by
  unfold countedB
  by_cases h0 : e = 0
  · subst h0
    go_enter Try.func33, Try.ntmps33
    go_wp2
    go_ret
    exact ⟨rfl, rfl⟩
  by_cases h1 : e = 44
  · subst h1
    go_enter Try.func33, Try.ntmps33
    go_wp2
    go_ret
    exact ⟨rfl, rfl⟩
  by_cases h2 : e = 45
  · subst h2
    go_enter Try.func33, Try.ntmps33
    go_wp2
    go_ret
    exact ⟨rfl, rfl⟩
  have k0 : (e == 0) = false := by simpa using h0
  have k1 : (e == 44) = false := by simpa using h1
  have k2 : (e == 45) = false := by simpa using h2
  clear h0 h1 h2
  go_enter Try.func33, Try.ntmps33
  go_wp2
  go_ret
  exact ⟨by rw [k0, k1, k2]; rfl, rfl⟩
/-- A step whose bytes lie in no disk's block. -/
structure QZ (w : World) (ρ : Nat → Nat) (q : OpQ) : Prop where
  nil : q.Ab = none → q.b.length = 0 ∧ q.cb = 0
  name : q.name.size ≤ maxLen
  dst : q.dst.size ≤ maxLen
  len : q.b.length ≤ 4096
  src : 0 < q.b.length → ∃ g o, q.Ab = some ⟨g, o, none⟩ ∧ g < w.heap.size ∧ ρ g = 0 ∧ ∀ k, k < q.b.length → w.cell? ⟨g, o + k, none⟩ = some (cB q.b k)
  kind : 1 ≤ q.kind ∧ q.kind ≤ 6
theorem QZ.keep {R : Nat → Prop} {w w' : World} {ρ ρ' : Nat → Nat} {q : OpQ} (h : QZ w ρ q) (K : Keeps R w ρ w' ρ') (hR : ¬ R 0) : QZ w' ρ' q :=
  ⟨h.nil, h.name, h.dst, h.len, fun hn => by
    obtain ⟨g, o, e, hl, hz, hc⟩ := h.src hn
    exact ⟨g, o, e, Nat.lt_of_lt_of_le hl K.1, ((K.2 g hl).1).trans hz, fun k hk => (World.cell?_of_block (w := w) (a := ⟨g, o + k, none⟩) ((K.2 g hl).2 (by rw [hz]; exact hR))).trans (hc k hk)⟩, h.kind⟩
theorem OpQ.At.qz {w : World} {base : Nat} {ρ : Nat → Nat} {q : OpQ} (h : q.At w base) (hl : base ≤ w.heap.size) (hz : ∀ g, g < base → ρ g = 0) (hb : q.b.length ≤ 4096) (hk : 1 ≤ q.kind ∧ q.kind ≤ 6) : QZ w ρ q := by
  refine ⟨h.nil, h.name, h.dst, hb, fun hn => ?_, hk⟩
  obtain ⟨g, o, e, _⟩ := h.rd 0 (q.b[0]'hn) (List.getElem?_eq_getElem hn)
  have hg := h.lt _ hn e
  refine ⟨g, o, e, by simpa using Nat.lt_of_lt_of_le hg hl, hz g hg, fun k hk => ?_⟩
  obtain ⟨g', o', e', hc⟩ := h.rd k (q.b[k]'hk) (List.getElem?_eq_getElem hk)
  rw [e] at e'
  injection e' with e'
  injection e' with e1 e2
  subst e1 e2
  rw [hc, cB_at (List.getElem?_eq_getElem hk)]
theorem QZ.far {w : World} {ρ : Nat → Nat} {q : OpQ} (h : QZ w ρ q) {i : Nat} (hi : 0 < i) (hi2 : i < 16) : SrcFar w ρ i q.Ab q.b.length q.b := fun hn => by
  obtain ⟨g, o, e, hl, hz, hc⟩ := h.src hn
  exact ⟨g, o, e, hl, fun x => by rw [hz]; unfold ro; omega, hc⟩
/-- The steps. -/
structure ListQ (w : World) (base : Nat) (ρ : Nat → Nat) (A : Option Addr) (cap : Nat) (qs : List OpQ) : Prop where
  lst : LstZ w base ρ 0 58 10 (.slice A qs.length cap) qs.length (cO qs)
  each : ∀ q ∈ qs, QZ w ρ q
theorem ListQ.keep {R : Nat → Prop} {w w' : World} {base cap : Nat} {ρ ρ' : Nat → Nat} {A : Option Addr} {qs : List OpQ} (h : ListQ w base ρ A cap qs) (K : Keeps R w ρ w' ρ') (hR : ¬ R 0) : ListQ w' base ρ' A cap qs := ⟨h.lst.keep K hR, fun q hq => (h.each q hq).keep K hR⟩
theorem ListQ.below {w w' : World} {base cap : Nat} {ρ : Nat → Nat} {A : Option Addr} {qs : List OpQ} (h : ListQ w base ρ A cap qs) (hb : Below w.heap.size w w') : ListQ w' base ρ A cap qs := h.keep (Keeps.below (fun _ => False) ρ hb) id
theorem ListQ.at_ {w : World} {base cap : Nat} {ρ : Nat → Nat} {A : Option Addr} {qs : List OpQ} (h : ListQ w base ρ A cap qs) {j : Nat} {q : OpQ} (hj : qs[j]? = some q) : ∃ g, A = some ⟨g, 0, none⟩ ∧ w.cell? ⟨g, j * 10, none⟩ = some (.int .i64 q.kind) ∧ w.cell? ⟨g, j * 10 + 1, none⟩ = some (.int .i64 q.on) ∧ w.cell? ⟨g, j * 10 + 2, none⟩ = some (.int .i64 q.n) ∧ w.cell? ⟨g, j * 10 + 3, none⟩ = some (.string q.name) ∧ w.cell? ⟨g, j * 10 + 4, none⟩ = some (.string q.dst) ∧ w.cell? ⟨g, j * 10 + 5, none⟩ = some (.slice q.Ab q.b.length q.cb) ∧ w.cell? ⟨g, j * 10 + 6, none⟩ = some (.int .i64 q.p0) ∧ w.cell? ⟨g, j * 10 + 7, none⟩ = some (.int .i64 q.p1) ∧ w.cell? ⟨g, j * 10 + 8, none⟩ = some (.int .i64 q.p2) ∧ w.cell? ⟨g, j * 10 + 9, none⟩ = some (.slice q.Ap q.np q.cp) := by
  have hl := (List.getElem?_eq_some_iff.1 hj).1
  obtain ⟨g, e, _⟩ := h.lst.1.getN (k := j * 10) (by omega) (by omega)
  have hc : ∀ i, i < 10 → w.cell? ⟨g, j * 10 + i, none⟩ = some (q.cell i) := fun i hi => by
    obtain ⟨g', e', c⟩ := h.lst.1.getN (k := j * 10 + i) (by omega) (by omega)
    rw [e] at e'
    injection e' with e'
    injection e' with e'
    subst e'
    rw [c, cO_at hi hj]
  have h0 := hc 0 (by omega)
  rw [Nat.add_zero] at h0
  exact ⟨g, e, h0, hc 1 (by omega), hc 2 (by omega), hc 3 (by omega), hc 4 (by omega), hc 5 (by omega), hc 6 (by omega), hc 7 (by omega), hc 8 (by omega), hc 9 (by omega)⟩
/-- Disks 1 and 2. -/
structure TwoAt (W : World) (A B : Nat) (a b : DM) (k : Nat) (ρ : Nat → Nat) (wr : World) : Prop where
  da : DiskAt wr W.heap.size ρ 1 A a
  db : DiskAt wr W.heap.size ρ 2 B b
  free : Free wr ρ
  oka : a.Ok
  okb : b.Ok
  sza : a.Sz k (4096 * k)
  szb : b.Sz k (4096 * k)
  below : Below W.heap.size W wr
def R12 (r : Nat) : Prop := ∃ k, r = ro 1 k ∨ r = ro 2 k
theorem r12 : ¬ R12 0 := by
  rintro ⟨k, h | h⟩ <;> unfold ro at h <;> omega
theorem TwoAt.go {W wr w' : World} {A B k : Nat} {a b : DM} {ρ : Nat → Nat} (h : TwoAt W A B a b k ρ wr) (hb : Below wr.heap.size wr w') : TwoAt W A B a b k ρ w' :=
  ⟨h.da.below hb, h.db.below hb, h.free.le hb.size, h.oka, h.okb, h.sza, h.szb, h.below.trans (hb.mono h.below.size)⟩
theorem TwoAt.mono {W wr : World} {A B k k' : Nat} {a b : DM} {ρ : Nat → Nat} (h : TwoAt W A B a b k ρ wr) (hk : k ≤ k') : TwoAt W A B a b k' ρ wr :=
  ⟨h.da, h.db, h.free, h.oka, h.okb, h.sza.mono hk (by omega), h.szb.mono hk (by omega), h.below⟩
theorem TwoAt.playA {W wr : World} {A B k : Nat} {a b : DM} {ρ : Nat → Nat} (h : TwoAt W A B a b k ρ wr) (hk : k ≤ 1000) {q : OpQ} (hq : QZ wr ρ q) :
    Calls Try.prog 26 #[.pointer (some ⟨A, 0, none⟩), q.agg] wr fun e w' => e = .returned (.int .i64 (a.op q.toM).2) ∧ ∃ ρ', TwoAt W A B (a.op q.toM).1 b (k + 1) ρ' w' ∧ Keeps R12 wr ρ w' ρ' := by
  refine (lawplay_far wr W.heap.size 1 A ρ a h.da (by omega) h.free h.oka h.sza (by omega) (by omega) q hq.nil hq.name hq.dst (hq.far (by omega) (by omega)) (by have := hq.len; omega)).mono ?_
  rintro e w' ⟨rfl, ρ', h1, h2, h3, h4⟩
  exact ⟨rfl, ρ', ⟨h1, h.db.keep h2 (fun x ⟨y, e⟩ => by unfold ro at e; omega), h3, h.oka.op _, h.okb, (h.sza.op h.oka q.toM).mono (Nat.le_refl _) (by have := hq.len; show 4096 * k + q.b.length ≤ _; omega), h.szb.mono (Nat.le_succ _) (by omega), h.below.trans h4⟩, h2.mono (fun r ⟨x, e⟩ => ⟨x, .inl e⟩)⟩
theorem TwoAt.playB {W wr : World} {A B k : Nat} {a b : DM} {ρ : Nat → Nat} (h : TwoAt W A B a b (k + 1) ρ wr) (hb : b.Sz k (4096 * k)) (hk : k ≤ 1000) {q : OpQ} (hq : QZ wr ρ q) :
    Calls Try.prog 26 #[.pointer (some ⟨B, 0, none⟩), q.agg] wr fun e w' => e = .returned (.int .i64 (b.op q.toM).2) ∧ ∃ ρ', TwoAt W A B a (b.op q.toM).1 (k + 1) ρ' w' ∧ Keeps R12 wr ρ w' ρ' := by
  refine (lawplay_far wr W.heap.size 2 B ρ b h.db (by omega) h.free h.okb h.szb (by omega) (by omega) q hq.nil hq.name hq.dst (hq.far (by omega) (by omega)) (by have := hq.len; omega)).mono ?_
  rintro e w' ⟨rfl, ρ', h1, h2, h3, h4⟩
  exact ⟨rfl, ρ', ⟨h.da.keep h2 (fun x ⟨y, e⟩ => by unfold ro at e; omega), h1, h3, h.oka, h.okb.op _, h.sza, (hb.op h.okb q.toM).mono (Nat.le_refl _) (by have := hq.len; show 4096 * k + q.b.length ≤ _; omega), h.below.trans h4⟩, h2.mono (fun r ⟨x, e⟩ => ⟨x, .inr e⟩)⟩
theorem crash_of {W wr : World} {D i k : Nat} {d : DM} {ρ : Nat → Nat} (hd : DiskAt wr W.heap.size ρ i D d) (hok : d.Ok) (hsz : d.Sz k (4096 * k)) (hk : k ≤ 1001) {Ap : Option Addr} {n cp : Nat} {ps : List Int} (hps : ps.length = n) (hcap : n ≤ cp) (hp : PicksIn wr Ap ps) : Calls Try.prog 21 #[.pointer (some ⟨D, 0, none⟩), .slice Ap n cp] wr (CrashEnd d ps wr) := by
  obtain ⟨fb, bN, bS, chv, hd⟩ := hd
  exact crash_any wr W.heap.size i D bN bS ρ d fb chv hd Ap n cp ps hps hcap hp hok.playOk (by have := hsz.chl; omega) hok.sureG.ok (by have := hok.sureG.len; omega) hok (fun j => by have := hsz.units j; omega) (fun j => by have := most_le d j; have := hsz.tot; omega)
theorem seen_of {W wr : World} {D i : Nat} {d : DM} {ρ : Nat → Nat} (hd : DiskAt wr W.heap.size ρ i D d) (hok : d.Ok) : Calls Try.prog 25 #[.pointer (some ⟨D, 0, none⟩)] wr (SeenEnd d.seenL wr) := by
  obtain ⟨fb, bN, bS, chv, hd⟩ := hd
  exact seen_any wr W.heap.size i D bN bS ρ d fb chv hd hok
theorem strokes_of {W wr : World} {D i : Nat} {d : DM} {ρ : Nat → Nat} (hd : DiskAt wr W.heap.size ρ i D d) : Calls Try.prog 14 #[.pointer (some ⟨D, 0, none⟩)] wr fun e w' => e = .returned (.int .i64 (d.strokes : Nat)) ∧ wr = w' := by
  obtain ⟨fb, bN, bS, chv, hd⟩ := hd
  exact strokes_any wr W.heap.size i D bN bS ρ d fb chv hd
/-- Two disks are opened. -/
theorem TwoAt.open_ {W w0 w1 w2 : World} {A B : Nat} {ρ ρ1 : Nat → Nat} (hb : Below W.heap.size W w0) (h1 : DiskAt w1 W.heap.size ρ1 1 A (DM.new 67108864)) (K1 : Keeps (fun r => (∃ k, r = ro 1 k) ∨ ∃ k, r = ro 3 k) w0 ρ w1 ρ1) (B1 : Below W.heap.size w0 w1) (he : OpenEnd W.heap.size ρ1 2 B (DM.new 67108864) w1 w2) : ∃ ρ2, TwoAt W A B (DM.new 67108864) (DM.new 67108864) 0 ρ2 w2 ∧ Keeps (fun r => r ≠ 0) w0 ρ w2 ρ2 := by
  obtain ⟨ρ2, h2, K2, F2, B2⟩ := he
  refine ⟨ρ2, ⟨h1.keep K2 (fun x h => by rcases h with ⟨y, e⟩ | ⟨y, e⟩ <;> unfold ro at e <;> omega), h2, F2, DM.Ok.new ⟨by omega, by omega⟩, DM.Ok.new ⟨by omega, by omega⟩, DM.Sz.new _, DM.Sz.new _, (hb.trans B1).trans B2⟩, (K1.mono ?_).trans (K2.mono ?_)⟩
  · rintro r (⟨k, e⟩ | ⟨k, e⟩) h0 <;> subst h0 <;> unfold ro at e <;> omega
  · rintro r (⟨k, e⟩ | ⟨k, e⟩) h0 <;> subst h0 <;> unfold ro at e <;> omega
theorem TwoAt.planA {W wr : World} {A B k : Nat} {a b : DM} {ρ : Nat → Nat} (h : TwoAt W A B a b k ρ wr) (p : Pl) : Calls Try.prog 32 #[.pointer (some ⟨A, 0, none⟩), .agg #[.int .i64 p.off, .int .i64 p.full, .int .i64 p.to]] wr fun e w' => e = .returned (.tuple #[]) ∧ TwoAt W A B (a.setPlan p) b k ρ w' ∧ Keeps R12 wr ρ w' ρ := by
  obtain ⟨fb, bN, bS, chv, hd⟩ := h.da
  refine (plan_any wr W.heap.size 1 A bN bS ρ a fb chv hd (by omega) p).mono ?_
  rintro e w' ⟨rfl, h1, h2, h3, h4⟩
  have hsz : (a.setPlan p).Sz k (4096 * k) := by
    unfold DM.setPlan
    split
    · exact h.sza
    · exact ⟨h.sza.strokes, Nat.zero_le _, h.sza.chl, h.sza.tot, h.sza.units, h.sza.filel⟩
  exact ⟨rfl, ⟨⟨fb, bN, bS, chv, h1⟩, h.db.keep h2 (fun x e => by unfold ro at e; omega), h.free.le h3, h.oka.setPlan p, h.okb, hsz, h.szb, h.below.trans h4⟩, h2.mono (fun r e => ⟨0, .inl e⟩)⟩
theorem TwoAt.planB {W wr : World} {A B k : Nat} {a b : DM} {ρ : Nat → Nat} (h : TwoAt W A B a b k ρ wr) (p : Pl) : Calls Try.prog 32 #[.pointer (some ⟨B, 0, none⟩), .agg #[.int .i64 p.off, .int .i64 p.full, .int .i64 p.to]] wr fun e w' => e = .returned (.tuple #[]) ∧ TwoAt W A B a (b.setPlan p) k ρ w' ∧ Keeps R12 wr ρ w' ρ := by
  obtain ⟨fb, bN, bS, chv, hd⟩ := h.db
  refine (plan_any wr W.heap.size 2 B bN bS ρ b fb chv hd (by omega) p).mono ?_
  rintro e w' ⟨rfl, h1, h2, h3, h4⟩
  have hsz : (b.setPlan p).Sz k (4096 * k) := by
    unfold DM.setPlan
    split
    · exact h.szb
    · exact ⟨h.szb.strokes, Nat.zero_le _, h.szb.chl, h.szb.tot, h.szb.units, h.szb.filel⟩
  exact ⟨rfl, ⟨h.da.keep h2 (fun x e => by unfold ro at e; omega), ⟨fb, bN, bS, chv, h1⟩, h.free.le h3, h.oka, h.okb.setPlan p, h.sza, hsz, h.below.trans h4⟩, h2.mono (fun r e => ⟨0, .inr e⟩)⟩
end Go.Proofs.Ytgkpobajafjdeaa
