/- SettleSends: the walk. -/
import Derived.Test.YtbgojhjlmlbfpaaSeR
import Derived.Deep.MidRow
namespace Go.Proofs.Ytbgojhjlmlbfpaa
open Go.RowKit

theorem SendAt.drewN {w wr : World} {ρ : Nat → Nat} {bc lb sb S W wc n N cp cap sh i : Nat} {Q : List Ent} {qv sq : Value} {ws : Nat → Way} {row la : Nat → Nat} {st : Nat → Nat → Bool} (h : SendAt w wr ρ bc lb sb S W wc n N cp cap sh i Q qv sq ws row la st) (k : Nat) : SendAt w (wr.drewN k) ρ bc lb sb S W wc n N cp cap sh i Q qv sq ws row la st :=
  have hb : ∀ b, Below b wr (wr.drewN k) := fun _ => below_drewN (Below.refl _ _) k
  h.keep (Keeps.below (fun _ => False) ρ (hb _)) h.free (hb _) (fun _ _ _ => id)
def Rel1 (w : World) (bc lb sb S W wc n N cp cap sh : Nat) (Q : List Ent) (qv sq : Value) (ws : Nat → Way) (iv : Value) (wr : World) : Prop :=
  ∃ (i : Nat) (ρ row : Nat → Nat), iv = .int .i64 i ∧ SendAt w wr ρ bc lb sb S W wc n N cp cap sh i Q qv sq ws row (fun _ => 0) (fun _ _ => false)
structure ConfC (w : World) (bc n N cp cap : Nat) : Prop where
  e0 : w.cell? ⟨bc, 0, none⟩ = some (.int .i64 (n : Nat))
  e1 : w.cell? ⟨bc, 1, none⟩ = some (.int .i64 (N : Nat))
  e2 : w.cell? ⟨bc, 2, none⟩ = some (.int .i64 (cp : Nat))
  e3 : w.cell? ⟨bc, 3, none⟩ = some (.int .i64 1)
  e4 : w.cell? ⟨bc, 4, none⟩ = some (.int .i64 16)
  e5 : w.cell? ⟨bc, 5, none⟩ = some (.int .i64 (cap : Nat))
  e6 : w.cell? ⟨bc, 6, none⟩ = some (.int .i64 64)
  e7 : w.cell? ⟨bc, 7, none⟩ = some (.int .i64 100)
  e8 : w.cell? ⟨bc, 8, none⟩ = some (.slice none 0 0)
theorem SendAt.cells {w wr : World} {ρ : Nat → Nat} {bc lb sb S W wc n N cp cap sh i : Nat} {Q : List Ent} {qv sq : Value} {ws : Nat → Way} {row la : Nat → Nat} {st : Nat → Nat → Bool} (h : SendAt w wr ρ bc lb sb S W wc n N cp cap sh i Q qv sq ws row la st) : ConfC wr bc n N cp cap :=
  ⟨cell_of_obj h.conf.1 0, cell_of_obj h.conf.1 1, cell_of_obj h.conf.1 2, cell_of_obj h.conf.1 3, cell_of_obj h.conf.1 4, cell_of_obj h.conf.1 5, cell_of_obj h.conf.1 6, cell_of_obj h.conf.1 7, cell_of_obj h.conf.1 8⟩
theorem ConfC.below {w w' : World} {bc n N cp cap : Nat} (h : ConfC w bc n N cp cap) (hb : Below w.heap.size w w') : ConfC w' bc n N cp cap :=
  ⟨cellKeep hb h.e0, cellKeep hb h.e1, cellKeep hb h.e2, cellKeep hb h.e3, cellKeep hb h.e4, cellKeep hb h.e5, cellKeep hb h.e6, cellKeep hb h.e7, cellKeep hb h.e8⟩
theorem msg_size : (Try.prog.info? 102).map (·.size) = some 22 := by kernel_rfl
theorem msg_under : ∃ d, Try.prog.underlying 102 = some d ∧ d.isRow = true := ⟨_, Try.underlying102, rfl⟩
theorem below_setCells (b : Nat) : ∀ (vs : List Value) (o : Nat) {B : Nat} {a w : World}, B ≤ b → Below B a w → Below B a (w.setCells b o vs)
  | [], _, _, _, _, _, h => h
  | v :: r, o, _, _, _, hb, h => below_setCells b r (o + 1) hb (h.setCell (p := ⟨b, o, none⟩) hb v)
theorem size_setCells (b : Nat) : ∀ (vs : List Value) (o : Nat) (w : World), (w.setCells b o vs).heap.size = w.heap.size
  | [], _, _ => rfl
  | v :: r, o, w => by
    show ((w.setCell ⟨b, o, none⟩ v).setCells b (o + 1) r).heap.size = _
    rw [size_setCells b r]
    simp [World.setCell]
/-- A new box, and all its cells stored. -/
theorem box_law (w : World) (zs : Array Value) (t : TypeId) (cs : List Value) (hz : zs.size = cs.length) :
    (w.alloc (.cells zs t)).there w.heap.size 0 cs.length ∧ ((w.alloc (.cells zs t)).setCells w.heap.size 0 cs).rangeAt w.heap.size 0 cs ∧ Below w.heap.size w ((w.alloc (.cells zs t)).setCells w.heap.size 0 cs) ∧ ((w.alloc (.cells zs t)).setCells w.heap.size 0 cs).heap.size = w.heap.size + 1 := by
  have ht : (w.alloc (.cells zs t)).there w.heap.size 0 cs.length := fun j hj => by
    refine ⟨?_, ?_⟩
    · rw [Nat.zero_add, World.cell?_alloc_at _ _ _ _ rfl, Array.getElem?_eq_getElem (by omega)]
      rfl
    · rw [Nat.zero_add, World.frozen?_alloc_at _ _ _ _ rfl]
  exact ⟨ht, World.rangeAt_setCells_same _ _ _ _ ht, below_setCells _ _ _ (Nat.le_refl _) ((Below.refl _ _).alloc (Nat.le_refl _) _), by rw [size_setCells]; simp⟩
/-- The cells of a message's box that are read. -/
structure MsgC (w : World) (b : Nat) (tx sh k num : Int) (name : ByteArray) (amt : Int) : Prop where
  m2 : w.cell? ⟨b, 2, none⟩ = some (.int .i64 tx)
  m3 : w.cell? ⟨b, 3, none⟩ = some (.int .i64 sh)
  m11 : w.cell? ⟨b, 11, none⟩ = some (.int .i64 k)
  m12 : w.cell? ⟨b, 12, none⟩ = some (.int .u64 num)
  m13 : w.cell? ⟨b, 13, none⟩ = some (.string name)
  m15 : w.cell? ⟨b, 15, none⟩ = some (.int .u64 amt)
theorem MsgC.below {w w' : World} {b : Nat} {tx sh k num amt : Int} {name : ByteArray} (h : MsgC w b tx sh k num name amt) (hb : Below w.heap.size w w') : MsgC w' b tx sh k num name amt :=
  ⟨cellKeep hb h.m2, cellKeep hb h.m3, cellKeep hb h.m11, cellKeep hb h.m12, cellKeep hb h.m13, cellKeep hb h.m15⟩
theorem MsgC.of {w : World} {b : Nat} {x : SMsg} {fr tx sh k num amt : Int} {name : ByteArray} (h : w.rangeAt b 0 x.cells.toList) (hx : x = ⟨fr, tx, sh, k, num, name, amt⟩) : MsgC w b tx sh k num name amt := by
  subst hx
  refine ⟨?_, ?_, ?_, ?_, ?_, ?_⟩
  · simpa using h 2 _ rfl
  · simpa using h 3 _ rfl
  · simpa using h 11 _ rfl
  · simpa using h 12 _ rfl
  · simpa using h 13 _ rfl
  · simpa using h 15 _ rfl
theorem MsgsAt.range {w : World} {base g cp n : Nat} {ρ : Nat → Nat} {ms : List SMsg} (h : MsgsAt w base ρ (.slice (some ⟨g, 0, none⟩) n cp) ms) {j : Nat} {x : SMsg} (hx : ms[j]? = some x) : w.rangeAt g (j * 22) x.cells.toList := fun q v hv => by
  have hq : q < 22 := (List.getElem?_eq_some_iff.1 hv).1
  have := h.one.msgCell hx q hq
  rw [Array.getElem?_toList] at hv
  rw [hv] at this
  exact this
theorem laT_next (ms : List SMsg) (j k t : Nat) (la : Nat → Nat) (x : SMsg) (hx : ms[j]? = some x) (hp : x.peer = (k : Nat)) : (fun y => if y = k then t else laT (ms.take j) t la y) = laT (ms.take (j + 1)) t la := by
  funext y
  unfold laT
  rw [told_take ms j y x hx, hp]
  by_cases h : y = k
  · subst h
    simp
  · have : ((k : Int) == (y : Int)) = false := by simp; omega
    rw [this, Bool.or_false, if_neg h]
theorem stT_next (ms : List SMsg) (j k tn : Nat) (ws : Nat → Way) (st : Nat → Nat → Bool) (x : SMsg) (hx : ms[j]? = some x) (hp : x.peer = (k : Nat)) (ht : (ws k).turn = tn) : (fun y z => stT (ms.take j) ws st y z || (y == k && z == tn)) = stT (ms.take (j + 1)) ws st := by
  funext y z
  unfold stT
  rw [told_take ms j y x hx, hp]
  by_cases h : y = k
  · subst h
    rw [ht]
    cases st y z <;> cases told (ms.take j) y <;> cases (z == tn) <;> simp
  · have h1 : ((k : Int) == (y : Int)) = false := by simp; omega
    have h2 : (y == k) = false := by simpa using h
    rw [h1, h2, Bool.or_false, Bool.false_and, Bool.or_false]
structure EntC (w : World) (b : Nat) (e : Ent) : Prop where
  n1 : w.cell? ⟨b, 1, none⟩ = some (.int .u64 e.num)
  n2 : w.cell? ⟨b, 2, none⟩ = some (.string e.name)
  n3 : w.cell? ⟨b, 3, none⟩ = some (.int .u64 e.amt)
theorem EntC.below {w w' : World} {b : Nat} {e : Ent} (h : EntC w b e) (hb : Below w.heap.size w w') : EntC w' b e :=
  ⟨cellKeep hb h.n1, cellKeep hb h.n2, cellKeep hb h.n3⟩
theorem EntC.new (w : World) (e : Ent) : EntC (w.alloc (.cells #[.int .i64 e.peer, .int .u64 e.num, .string e.name, .int .u64 e.amt] 104)) w.heap.size e :=
  have h := heap_alloc_new w (.cells #[.int .i64 e.peer, .int .u64 e.num, .string e.name, .int .u64 e.amt] 104)
  ⟨cell_of_obj h 1, cell_of_obj h 2, cell_of_obj h 3⟩
def Rel2 (w : World) (bc lb sb S W wc n N cp cap sh M : Nat) (Q : List Ent) (qv : Value) (row : Nat → Nat) (tv : Value) (wr : World) : Prop :=
  ∃ (t : Nat) (ρ la : Nat → Nat) (ws : Nat → Way) (sq : Value) (st : Nat → Nat → Bool), tv = .int .i64 t ∧ 1 ≤ t ∧ t ≤ M + 1 ∧ SendAt w wr ρ bc lb sb S W wc n N cp cap sh N Q qv sq ws row la st ∧ Plain n N cp cap sh Q (t - 1) ws la st
def Rel3 (w : World) (bc lb sb S W wc n N cp cap sh t : Nat) (Q : List Ent) (qv : Value) (ws ws' : Nat → Way) (row la : Nat → Nat) (st : Nat → Nat → Bool) (mv : Value) (ms : List SMsg) (wv iv : Value) (wr : World) : Prop :=
  ∃ (i : Nat) (was : Int) (ρ : Nat → Nat) (sq : Value), wv = .int .i64 was ∧ iv = .int .i64 i ∧ i ≤ ms.length ∧ (∀ j m, i ≤ j → ms[j]? = some m → was < m.peer) ∧ SendAt w wr ρ bc lb sb S W wc n N cp cap sh N Q qv sq ws' row (laT (ms.take i) t la) (stT (ms.take i) ws st) ∧ MsgsAt wr w.heap.size ρ mv ms
def Rel5 (w : World) (bc lb sb S W wc n N cp cap sh : Nat) (Q : List Ent) (qv : Value) (ws : Nat → Way) (row la : Nat → Nat) (st : Nat → Nat → Bool) (kv : Value) (wr : World) : Prop :=
  ∃ (k : Nat) (ρ : Nat → Nat) (sq : Value), kv = .int .i64 k ∧ k ≤ cp ∧ SendAt w wr ρ bc lb sb S W wc n N cp cap sh N Q qv sq ws row la st
def Rel4 (w : World) (bc lb sb S W wc n N cp cap sh : Nat) (Q : List Ent) (qv : Value) (ws : Nat → Way) (row la : Nat → Nat) (st : Nat → Nat → Bool) (iv : Value) (wr : World) : Prop :=
  ∃ (i : Nat) (ρ : Nat → Nat) (sq : Value), iv = .int .i64 i ∧ i ≤ N ∧ SendAt w wr ρ bc lb sb S W wc n N cp cap sh N Q qv sq ws row la st
set_option maxRecDepth 100000 in
set_option maxHeartbeats 8000000 in
theorem sends_walk (w : World) (a b c d s : Int) (A1 A2 A3 : Option Addr) (n1 n2 n3 c1 c2 c3 : Nat) (hM : ∀ i, i < n1 → ∃ g off x, A1 = some ⟨g, off, none⟩ ∧ g < w.heap.size ∧ w.cell? ⟨g, off + i, none⟩ = some (.int .i64 x)) (hn1 : n1 ≤ 9223372036854775807) :
    Calls Try.prog 7 #[.agg #[.int .i64 a, .int .i64 b, .int .i64 c, .int .i64 d, .int .i64 s, .slice A1 n1 c1, .slice A2 n2 c2, .slice A3 n3 c3]] w fun e w' => e = .returned (.bool true) ∧ Below w.heap.size w w' := by
  have hb1 : Below w.heap.size w (w.alloc (loadObj a b c d s A1 A2 A3 n1 n2 n3 c1 c2 c3)) := (Below.refl _ _).alloc (Nat.le_refl _) _
  have hz1 : (w.alloc (loadObj a b c d s A1 A2 A3 n1 n2 n3 c1 c2 c3)).heap.size = w.heap.size + 1 := by simp
  have HL := laid_any (w.alloc (loadObj a b c d s A1 A2 A3 n1 n2 n3 c1 c2 c3)) a b c d s A1 A2 A3 n1 n2 n3 c1 c2 c3 (fun i hi => by
    obtain ⟨g, off, x, h1, h2, h3⟩ := hM i hi
    exact ⟨g, off, x, h1, by omega, cellKeep hb1 h3⟩) hn1
  unfold loadObj at HL hb1 hz1
  have F1 : Free (w.alloc (.cells #[.int .i64 a, .int .i64 b, .int .i64 c, .int .i64 d, .int .i64 s, .slice A1 n1 c1, .slice A2 n2 c2, .slice A3 n3 c3] 76)) (fun _ => 0) := fun _ _ => rfl
  clear hM hn1
  have HLh := Lib.hid HL
  clear HL
  go_enter Try.func7, Try.ntmps7
  go_wp2_with fail
  generalize w.alloc (.cells #[.int .i64 a, .int .i64 b, .int .i64 c, .int .i64 d, .int .i64 s, .slice A1 n1 c1, .slice A2 n2 c2, .slice A3 n3 c3] 76) = w1 at hb1 hz1 HLh F1 ⊢
  refine HLh.out.mono ?_
  clear HLh
  rintro e w2 ⟨n, N, cp, cap, sh, Q, qv, rfl, hc, hsh, hQ, hq, hb2⟩
  obtain ⟨Aq, cq, rfl⟩ := OneN.len hq
  obtain ⟨m, hm⟩ : ∃ m, Q.length = m := ⟨_, rfl⟩
  rw [hm] at hq ⊢
  obtain ⟨ρ2, K2, F2, q2, r2⟩ := label_new (base := w.heap.size) (r := 2) hb2 hq (by omega) F1
  have L2 := hb1.trans (hb2.mono (by omega))
  clear hq K2 hb2
  have hcN := hc.hN
  have hccap := hc.hcap
  have hccp := hc.hcp
  have hchn := hc.hn
  have hb3 : Below w2.heap.size w2 (w2.alloc (.cells (confArr n N cp cap) 79)) := (Below.refl _ _).alloc (Nat.le_refl _) _
  have hz3 : (w2.alloc (.cells (confArr n N cp cap) 79)).heap.size = w2.heap.size + 1 := by simp
  have C3 : Objr (w2.alloc (.cells (confArr n N cp cap) 79)) (lab ρ2 w2.heap.size 1) 1 w2.heap.size (.cells (confArr n N cp cap) 79 (0, 0)) := ⟨heap_alloc_new w2 _, lab_eq⟩
  have K3 : Keeps (fun _ => False) w2 ρ2 (w2.alloc (.cells (confArr n N cp cap) 79)) (lab ρ2 w2.heap.size 1) := ⟨hb3.size, fun k hk => ⟨lab_ne (by omega), fun _ => hb3.block k hk⟩⟩
  have F3 := F2.lab (r := 1) hb3.size (g := w2.heap.size) (by omega)
  obtain ⟨q3, r3⟩ := OneN.keep q2 r2 K3 id
  have hw2 := L2.size
  have L3 := L2.trans (hb3.mono hw2)
  clear q2 r2 F1 F2 K3 hb3 hb1 L2
  unfold confV
  unfold confArr at C3 F3 q3 L3 hz3
  go_wp2_with fail
  generalize w2.alloc (.cells #[.int .i64 (n : Nat), .int .i64 (N : Nat), .int .i64 (cp : Nat), .int .i64 1, .int .i64 16, .int .i64 (cap : Nat), .int .i64 64, .int .i64 100, .slice none 0 0] 79) = w3 at C3 F3 q3 L3 hz3 ⊢
  generalize lab ρ2 w2.heap.size 1 = ρ3 at C3 F3 r3 ⊢
  generalize w2.heap.size = bc at C3 hz3 ⊢
  refine (settle_new w3 w.heap.size 40 ρ3 0 sh 1 16 64 100 n N cp cap none 0 0 hcN (by omega) hchn hccp F3 L3.size).mono ?_
  rintro e w4 ⟨S, W, wc, ρ4, ws, rfl, s4, hfr, K4, F4, L4⟩
  have C4 := C3.keep K4 (by omega)
  obtain ⟨q4, r4⟩ := OneN.keep q3 r3 K4 (by omega)
  have L04 := L3.trans L4
  clear C3 q3 r3 K4 L4 L3 F3
  obtain ⟨hms, hwt⟩ := fresh_idle (node := 0) (sh := sh) hfr
  have HT : ∀ w5 (ρ5 : Nat → Nat), SetAt w5 w.heap.size ρ5 40 S 0 sh N ws (.slice (some ⟨W, 0, none⟩) N wc) (.slice none 0 0) [] → Free w5 ρ5 → _ := fun w5 ρ5 h1 h2 => settle_tick w5 w.heap.size 40 S N W wc ρ5 0 sh ws (.slice none 0 0) [] h1 h2
  rw [hms, hwt] at HT
  have HH := Lib.hid (And.intro C4 (And.intro q4 (And.intro r4 (And.intro L04 (And.intro F4 s4)))))
  clear C4 q4 r4 L04 F4 s4 hms hwt
  have HTh := Lib.hid HT
  clear HT
  have hmi := fun w => makes_ints N (by omega) w
  have hmr := fun w => makes_rows N (by omega) w
  go_wp2_with (first | (go_at_call 28; (with_reducible refine (wakes13 _).mono ?_); rintro e w5 ⟨rfl, hb5⟩; obtain ⟨C4, q4, r4, L04, F4, s4⟩ := HH.out; have K5 := Keeps.below (fun _ => False) ρ4 hb5; have C5 := C4.keep K5 id; have q5 := OneN.keep q4 r4 K5 id; have s5 := s4.keep K5 (fun _ _ _ _ => id); have F5 := F4.le K5.1; have L05 := L04.trans (hb5.mono L04.size); clear HH C4 q4 r4 L04 F4 s4 K5) | (go_at_call 29; (with_reducible refine (HTh.out _ _ s5 F5).mono ?_); rintro e w6 ⟨v6, ρ6, rfl, s6, o6, _, K6, F6, L6⟩; obtain ⟨A6, c6, rfl⟩ := OneN.len o6; have C6 := C5.keep K6 (by omega); have q6 := OneN.keep q5.1 q5.2 K6 (by omega); have L06 := L05.trans L6; clear C5 q5 s5 F5 L05 K6 o6 L6 HTh) | (go_at_call 30; (with_reducible refine (settle_look w6 w.heap.size 40 S N W wc ρ6 0 sh sh ws _ [] s6 F6 Aq m cq Q (One.hasQ q6.1 hm) (by have := hQ.len; omega) none none none none 0 0 0 0 0 0 0 0).mono ?_); rintro e w7 ⟨rfl, ρ7, sq, s7, K7, F7, L7⟩; have C7 := C6.keep K7 (by omega); have q7 := OneN.keep q6.1 q6.2 K7 (by omega); have L07 := L06.trans L7; clear C6 q6 s6 F6 L06 K7 L7; have d1 := cell_of_obj C7.1 1; simp only [List.getElem?_toArray, List.getElem?_cons_zero, List.getElem?_cons_succ] at d1; have d2 := cellKeep ((Below.refl _ w7).alloc (Nat.le_refl _) (cellsObj 3 N (fun _ => .int .i64 0))) d1))
  clear d1 d2 hmi hmr
  have X8 : SendAt w ((w7.alloc (cellsObj 3 N (fun _ => .int .i64 0))).alloc (cellsObj 72 N (fun _ => .slice none 0 0))) (lab (lab ρ7 w7.heap.size 3) (w7.heap.size + 1) 4) bc w7.heap.size (w7.heap.size + 1) S W wc n N cp cap sh 0 Q (.slice Aq m cq) sq (wsL sh Q ws N) (fun _ => 0) (fun _ => 0) (fun _ _ => false) := by
    have hb : Below w7.heap.size w7 ((w7.alloc (cellsObj 3 N (fun _ => .int .i64 0))).alloc (cellsObj 72 N (fun _ => .slice none 0 0))) := ((Below.refl _ _).alloc (Nat.le_refl _) _).alloc (by simp) _
    have hz : ((w7.alloc (cellsObj 3 N (fun _ => .int .i64 0))).alloc (cellsObj 72 N (fun _ => .slice none 0 0))).heap.size = w7.heap.size + 2 := by simp
    have K : Keeps (fun _ => False) w7 ρ7 ((w7.alloc (cellsObj 3 N (fun _ => .int .i64 0))).alloc (cellsObj 72 N (fun _ => .slice none 0 0))) (lab (lab ρ7 w7.heap.size 3) (w7.heap.size + 1) 4) := ⟨hb.size, fun k hk => ⟨by rw [lab_ne (by omega), lab_ne (by omega)], fun _ => hb.block k hk⟩⟩
    have o1 : ((w7.alloc (cellsObj 3 N (fun _ => .int .i64 0))).alloc (cellsObj 72 N (fun _ => .slice none 0 0))).heap[w7.heap.size]? = some (cellsObj 3 N (fun _ => .int .i64 0)) := by
      rw [Below.heap_alloc _ _ _ (by simp)]; exact heap_alloc_new w7 _
    have o2 : ((w7.alloc (cellsObj 3 N (fun _ => .int .i64 0))).alloc (cellsObj 72 N (fun _ => .slice none 0 0))).heap[w7.heap.size + 1]? = some (cellsObj 72 N (fun _ => .slice none 0 0)) := by
      have e := heap_alloc_new (w7.alloc (cellsObj 3 N (fun _ => .int .i64 0))) (cellsObj 72 N (fun _ => .slice none 0 0))
      rw [World.size_alloc] at e
      exact e
    obtain ⟨a1, a2⟩ := OneN.keep q7.1 q7.2 K id
    have hsz := L07.size
    refine ⟨C7.keep K id, by rw [hm]; exact a1, a2, s7.keep K (fun _ _ _ _ => id), ⟨o1, by rw [lab_ne (by omega), lab_eq]⟩, ⟨?_, lab_eq⟩, fun k hk => by omega, fun k hk => ?_, L07.trans (hb.mono hsz), ⟨hsz, by omega, fun k hk => by omega⟩, ⟨hcN.2, by omega⟩⟩
    · simp only [Nat.not_lt_zero, if_false]
      exact o2
    · have hk2 := Nat.le_trans (Nat.le_of_eq hz.symm) hk
      rw [lab_ne (by omega), lab_ne (by omega)]
      exact F7 k (by omega)
  have P8 := Plain.start (cap := cap) hfr hQ hccap.1
  generalize wsL sh Q ws N = ws0 at X8 P8
  generalize w7.heap.size = lb at X8 ⊢
  clear s7 C7 q7 F7 L07 hfr hz3 hb5 hw2
  go_loopw [9] (fun iv wr => Rel1 w bc lb (lb + 1) S W wc n N cp cap sh Q (.slice Aq m cq) sq ws0 iv wr) (fun iv _ => (N - intOf iv).toNat)
  case atStart => exact ⟨0, _, _, rfl, X8⟩
  case round =>
    as_aux_lemma =>
      clear X8
      obtain ⟨i, ρ, row, rfl, hX⟩ := hrel
      have e1 := cell_of_obj hX.conf.1 1
      have e2 := cell_of_obj hX.conf.1 2
      unfold confArr at e1 e2
      simp only [List.getElem?_toArray, List.getElem?_cons_zero, List.getElem?_cons_succ] at e1 e2
      by_cases hi : i < N
      · have q1 : (i : Int) < (N : Int) := by omega
        have q0 : (0 : Int) ≤ (i : Int) := by omega
        have hmb := fun w => makes_boolz cp (by omega) w
        have hb9 : Below wr.heap.size wr (wr.alloc (cellsObj 4 cp (fun _ => .bool false))) := (Below.refl _ _).alloc (Nat.le_refl _) _
        have x9 := cellKeep hb9 (obj_cell hX.sent.1 i hi)
        rw [if_neg (by omega)] at x9
        have f9 : (wr.alloc (cellsObj 4 cp (fun _ => .bool false))).frozen? ⟨lb + 1, i, none⟩ = false := free_of_obj ((hb9.block _ (lt_of_obj hX.sent.1)).trans hX.sent.1) i
        have H10 := Lib.hid (hX.addRow hi)
        clear hX hb9
        go_wp2
        exact ⟨⟨i + 1, _, _, by go_num, H10.out⟩, by simp [intOf]; omega⟩
      · have hiN : i = N := by have := hX.num; omega
        have qn : ¬ (i : Int) < (N : Int) := by omega
        rw [hiN] at hX
        go_wp2_with fail
        clear e1 e2 qn
        obtain ⟨M, hM⟩ : ∃ M, M = cp * cap := ⟨_, rfl⟩
        have hMb : 1 ≤ M ∧ M ≤ 448 := by
          have h1 : cp * cap ≤ 7 * 64 := Nat.mul_le_mul hccp.2.2.1 hccap.2
          have h2 : 0 < cp * cap := Nat.mul_pos hccp.1 hccap.1
          omega
        have hwm : IntKind.i64.wrap ((cp : Int) * (cap : Int)) = (M : Nat) := by
          rw [hM, ← Int.natCast_mul]
          rw [← hM]
          exact wrap_small _ (by omega) (by omega)
        go_loopw [10] (fun tv wr => Rel2 w bc lb (lb + 1) S W wc n N cp cap sh M Q (.slice Aq m cq) row tv wr) (fun tv _ => (M + 1 - intOf tv).toNat)
        case atStart => exact ⟨1, ρ, _, ws0, sq, _, rfl, by omega, by omega, hX, P8⟩
        case round =>
          as_aux_lemma =>
            clear hX P8
            obtain ⟨t, ρ, la, ws, sq, st, rfl, ht1, htM, hX, hP⟩ := hrel
            obtain ⟨e0, e1, e2, e3, e4, e5, e6, e7, e8⟩ := hX.cells
            by_cases htl : t ≤ M
            · have q1 : (t : Int) ≤ (M : Int) := by omega
              have q7 : 0 ≤ (t : Int) := by omega
              have hPt := hP.tick hccp.2.1 0
              rw [Nat.sub_add_cancel ht1] at hPt
              have hlook := hPt.look
              have HX := Lib.hid hX
              have HP := Lib.hid hP
              have HL := Lib.hid hlook
              have HPT := Lib.hid hPt
              clear hX hP hPt hlook
              rcases hb73 : ((t : Int) % 7 == 3) with _ | _
              all_goals go_wp2_with (first | (go_at_call 29; (with_reducible refine (settle_tick wr w.heap.size 40 S N W wc ρ 0 sh ws sq Q HX.out.set HX.out.free).mono ?_); rintro e w6 ⟨v6, ρ6, rfl, s6, o6, r6, K6, F6, L6⟩; obtain ⟨A6, c6, rfl⟩ := OneN.len o6; obtain ⟨ρ7, X7, G7⟩ := (HX.out.sets s6 K6 F6 L6).msgs o6 r6; clear s6 o6 r6 K6 F6 L6) | (go_at_call 30; (with_reducible refine (settle_look w6 w.heap.size 40 S N W wc ρ7 0 sh sh (wsT sh ws N) sq Q X7.set X7.free Aq m cq Q (One.hasQ X7.q rfl) (by have := hQ.len; omega) none none none none 0 0 0 0 0 0 0 0).mono ?_); rintro e w8 ⟨rfl, ρ8, sq8, s8, K8, F8, L8⟩; rw [HL.out] at s8; have X8 := X7.sets s8 K8 F8 L8; have G8 := G7.keep K8 (by omega); clear s8 K8 F8 L8 X7 G7))
              all_goals (first | (have XX := X8; have GG := G8; clear X8 G8) | (have XX := X7; have GG := G7; clear X7 G7))
              all_goals
                obtain ⟨ms, hms⟩ : ∃ ms, msT 0 sh ws N = ms := ⟨_, rfl⟩
                have hat : ∀ (j : Nat) (x : SMsg), ms[j]? = some x → ∃ k, k < N ∧ (k : Int) ≠ sh ∧ (ws k).fires = true ∧ x = msgOf 0 sh k (ws k) := fun j x h => msT_at 0 sh ws N j x (by rw [hms]; exact h)
                have hml : ms.length ≤ 8 := by
                  have := msT_len 0 sh ws N
                  rw [hms] at this
                  omega
                have hup : ∀ (j j' : Nat) (x x' : SMsg), j < j' → ms[j]? = some x → ms[j']? = some x' → x.peer < x'.peer := fun j j' x x' hj h h' => msT_up 0 sh ws N j j' x x' hj (by rw [hms]; exact h) (by rw [hms]; exact h')
                rw [hms] at GG HPT ⊢
                generalize wsT sh ws N = ws' at XX HPT
                have HAT := Lib.hid hat
                have HUP := Lib.hid hup
                clear hat hup hms HL HX e0 e1 e2 e3 e4 e5 e6 e7 e8
                go_loopw [12, 13] (fun wv iv wr => Rel3 w bc lb (lb + 1) S W wc n N cp cap sh t Q (.slice Aq m cq) ws ws' row la st (.slice A6 ms.length c6) ms wv iv wr) (fun _ iv _ => (ms.length - intOf iv).toNat)
                case atStart =>
                  have h1 : ∀ (j : Nat) (x : SMsg), 0 ≤ j → ms[j]? = some x → (-1 : Int) < x.peer := fun j x _ hx => by
                    obtain ⟨k, _, _, _, rfl⟩ := HAT.out j x hx
                    show (-1 : Int) < (k : Int)
                    omega
                  have h2 : laT (ms.take 0) t la = la := rfl
                  have h3 : stT (ms.take 0) ws st = st := by
                    funext x y
                    show (st x y || (false && _)) = st x y
                    rw [Bool.false_and, Bool.or_false]
                  rw [← h2, ← h3] at XX
                  exact ⟨0, -1, _, _, rfl, rfl, Nat.zero_le _, h1, XX, GG⟩
                case round =>
                  as_aux_lemma =>
                    clear XX GG
                    obtain ⟨j, was, ρ, sq, rfl, rfl, hj, hwas, hX, hG⟩ := hrel
                    by_cases hjl : j < ms.length
                    · obtain ⟨x, hx⟩ : ∃ x, ms[j]? = some x := ⟨_, List.getElem?_eq_getElem hjl⟩
                      obtain ⟨k, hk, hks, hfi, hxe⟩ := HAT.out j x hx
                      have hwk := hwas j x (Nat.le_refl _) hx
                      have hth : (ws k).there = true := by
                        unfold Way.fires at hfi
                        cases h : (ws k).there
                        · rw [h] at hfi; cases hfi
                        · rfl
                      obtain ⟨e, he⟩ : ∃ e, firstE Q (k : Nat) = some e := by
                        cases h : firstE Q (k : Nat) with
                        | some e => exact ⟨e, rfl⟩
                        | none =>
                          have := (HP.out.none_ hk h).1
                          rw [this] at hth; cases hth
                      obtain ⟨_, s', hp, hst⟩ := HP.out.some_ hk he
                      have hlen : (copiesL k n cp).length = cp := copiesL_length hccp.2.1
                      obtain ⟨tn, htn⟩ : ∃ tn, (ws k).turn = tn := ⟨_, rfl⟩
                      have htcp : tn < cp := by rw [← htn, hp.turn]; exact Nat.mod_lt _ (by omega)
                      obtain ⟨tx, htx⟩ : ∃ tx, (copiesL k n cp).getD tn 0 = tx := ⟨_, rfl⟩
                      have hpl : placeZ (copiesL k n cp) tx = (tn : Nat) := by
                        rw [← htx]
                        exact placeZ_at (copiesL_nodup k n cp (by omega) hchn.2 hccp.2.1) (by omega)
                      have hxe2 : x = ⟨0, tx, sh, k, e.num, e.name, e.amt⟩ := by
                        rw [hxe]
                        unfold msgOf
                        rw [hp.ent, hp.cop, htn, htx]
                      have hxp : x.peer = (k : Nat) := by rw [hxe2]
                      obtain ⟨gm, cgm, hgm⟩ := OneN.form hG.one (by omega)
                      injection hgm with hgm _ hgc
                      subst hgm hgc
                      rw [hxp] at hwk
                      rw [hxe2] at hx
                      clear hxe hfi hth hp hst hxe2 hlen htx
                      have q1 : (j : Int) < (ms.length : Int) := by omega
                      have q0 : (0 : Int) ≤ (j : Int) := by omega
                      have q9 : (j : Int) < 8 := by omega
                      have hrg := hG.range hx
                      obtain ⟨x, hxl⟩ : ∃ x : SMsg, x = ⟨0, tx, sh, k, e.num, e.name, e.amt⟩ := ⟨_, rfl⟩
                      rw [← hxl] at hx hrg
                      obtain ⟨cs, hcs⟩ : ∃ cs, x.cells.toList = cs := ⟨_, rfl⟩
                      have hcl : cs.length = 22 := by rw [← hcs]; rfl
                      have hone : ∀ v ∈ cs, v.oneCell' = true := by rw [← hcs]; exact x.one
                      have hsz : (Try.prog.info? 102).map (·.size) = some cs.length := by rw [hcl]; exact msg_size
                      have hsz2 : (Try.prog.info? 102).map (·.size) = some cs.toArray.size := hsz
                      obtain ⟨dm, hdm, hrow⟩ := msg_under
                      rw [hcs] at hrg
                      have hlbne : wr.heap.size ≠ lb := by have := lt_of_obj hX.last.1; omega
                      have hbase := hX.bel.size
                      have hql : Q.length ≤ 9223372036854775807 := by have := hQ.len; omega
                      have hFO : ∀ w', HasQ w' (.slice Aq m cq) Q → Calls Try.prog 31 #[.slice Aq m cq, .int .i64 (k : Nat)] w' fun e' w'' => e' = .returned (.tuple #[.agg #[.int .i64 e.peer, .int .u64 e.num, .string e.name, .int .u64 e.amt], .bool true]) ∧ Below w'.heap.size w' w'' := fun w' h => by
                        have := firstOf_any w' _ Q k h hql
                        rw [he] at this
                        exact this
                      have hPO : ∀ w', Calls Try.prog 32 #[.agg #[.int .i64 (n : Nat), .int .i64 (N : Nat), .int .i64 (cp : Nat), .int .i64 1, .int .i64 16, .int .i64 (cap : Nat), .int .i64 64, .int .i64 100, .slice none 0 0], .int .i64 (k : Nat), .int .i64 tx] w' fun e' w'' => e' = .returned (.int .i64 (tn : Nat)) ∧ Below w'.heap.size w' w'' := fun w' => by
                        have := placeOf_any w' n N cp cap k tx hc (by omega)
                        rw [hpl] at this
                        exact this
                      have HB := Lib.hid (box_law wr #[.int .i64 0, .int .i64 0, .int .i64 0, .int .i64 0, .int .u64 0, .int .u64 0, .int .u64 0, .int .u64 0, .int .i64 0, .int .u64 0, .slice none 0 0, .int .i64 0, .int .u64 0, .string ⟨#[]⟩, .string ⟨#[]⟩, .int .u64 0, .int .u64 0, .int .u64 0, .int .i64 0, .int .i64 0, .int .i64 0, .int .i64 0] 102 cs (by rw [hcl]; rfl))
                      have HXG := Lib.hid (And.intro hX hG)
                      have HR := Lib.hid hrg
                      have HS := Lib.hid hsz
                      have p1 : ¬ ((k : Int) ≤ was) := by omega
                      have p2 : ¬ ((tn : Int) < 0) := by omega
                      have p3 : (k : Int) < (N : Int) := by omega
                      have p4 : (0 : Int) ≤ (k : Int) := by omega
                      have p5 : (tn : Int) < (cp : Int) := by omega
                      have p6 : (0 : Int) ≤ (tn : Int) := by omega
                      clear hX hG hrg hsz
                      go_wp2_with (first | (refine wpList_load_mid rfl 102 (.tmp 96) rfl gm (j * 22) rfl cs dm HR.out hdm hrow HS.out ?_) | (refine wpList_store_mid rfl 102 (.tmp 14) (.tmp 97) rfl wr.heap.size 0 cs.toArray rfl rfl HB.out.1 hsz2 (all_oneCell_toArray hone) ?_; obtain ⟨hra, hba, hza⟩ := HB.out.2; generalize World.setCells _ _ _ _ = wa at hra hba hza ⊢; have Ka := Keeps.below (fun _ => False) ρ hba; have Xa := HXG.out.1.keep Ka (HXG.out.1.free.le Ka.1) (hba.mono hbase) (fun _ _ _ => id); have Ga := HXG.out.2.keep Ka id; rw [← hcs] at hra; have ma := MsgC.of hra hxl; have m11a := ma.m11; clear hra Ka HR HB HXG hba) | (go_at_call 31; (with_reducible refine (hFO _ (One.hasQ Xa.q rfl)).mono ?_); rintro e' wb ⟨rfl, hbb⟩; have hbc : Below wb.heap.size wb (wb.alloc (.cells #[.int .i64 e.peer, .int .u64 e.num, .string e.name, .int .u64 e.amt] 104)) := (Below.refl _ _).alloc (Nat.le_refl _) _; have hbs := Xa.bel.size; have Kc := (Keeps.below (fun _ => False) ρ hbb).trans (Keeps.below (fun _ => False) ρ hbc); have Xc := Xa.keep Kc (Xa.free.le Kc.1) ((hbb.mono hbs).trans (hbc.mono (Nat.le_trans hbs hbb.size))) (fun _ _ _ => id); have Gc := Ga.keep Kc id; have mc := (ma.below hbb).below hbc; have m11c := mc.m11; have m2c := mc.m2; have ec := EntC.new wb e; obtain ⟨e0, e1, e2, e3, e4, e5, e6, e7, e8⟩ := Xc.cells; have HC := Lib.hid (And.intro Xc (And.intro Gc (And.intro mc ec))); clear Xa Ga ma m11a Kc Xc Gc mc ec hbb hbc) | (go_at_call 32; (with_reducible refine (hPO _).mono ?_); rintro e' wd ⟨rfl, hbd⟩; obtain ⟨Xc, Gc, mc, ec⟩ := HC.out; have Kd := Keeps.below (fun _ => False) ρ hbd; have hcs2 := Xc.bel.size; have Xd := Xc.keep Kd (Xc.free.le Kd.1) (hbd.mono hcs2) (fun _ _ _ => id); have Gd := Gc.keep Kd id; obtain ⟨d2, d3, d11, d12, d13, d15⟩ := mc.below hbd; obtain ⟨dn1, dn2, dn3⟩ := ec.below hbd; clear HC Xc Gc mc ec Kd hbd e0 e1 e2 e3 e4 e5 e6 e7 e8 m11c m2c; have l1 := obj_cell Xd.last.1 k hk; have l2 := free_of_obj Xd.last.1 k; obtain ⟨Xe, Ke⟩ := Xd.putLast k t; have s1 := obj_cell Xe.sent.1 k hk; rw [if_pos hk] at s1; have s2 := obj_cell (Xe.rows k hk).1 tn htcp; have s3 := free_of_obj (Xe.rows k hk).1 tn; have d11e := (World.cell?_of_block (a := ⟨wr.heap.size, 11, none⟩) (Below.heap_setCell wd ⟨lb, k, none⟩ (.int .i64 (t : Nat)) wr.heap.size hlbne)).trans d11; have HE := Lib.hid (And.intro Xe (Gd.keep Ke (by omega))); clear Xd Gd Xe Ke))
                      obtain ⟨Xf, Kf⟩ := HE.out.1.putRow k tn hk
                      have hxk : x.peer = (k : Nat) := by rw [hxl]
                      rw [laT_next ms j k t la x hx hxk, stT_next ms j k tn ws st x hx hxk htn] at Xf
                      have Gf := HE.out.2.keep Kf (by omega)
                      have hw' : ∀ j' x', j + 1 ≤ j' → ms[j']? = some x' → ((k : Nat) : Int) < x'.peer := fun j' x' h1 h2 => by
                        rw [← hxk]
                        exact HUP.out j j' x x' (by omega) hx h2
                      go_roundw
                      case rel =>
                        have hrl : ∀ iv, iv = Value.int .i64 ((j + 1 : Nat) : Int) → Rel3 w bc lb (lb + 1) S W wc n N cp cap sh t Q (.slice Aq m cq) ws ws' row la st (.slice (some ⟨gm, 0, none⟩) ms.length c6) ms (.int .i64 (k : Nat)) iv _ := fun iv hiv => ⟨j + 1, _, _, _, rfl, hiv, by omega, hw', Xf, Gf⟩
                        exact hrl _ (by go_num)
                      case measure =>
                        simp [intOf]
                        omega
                    · have hje : j = ms.length := by omega
                      subst hje
                      rw [List.take_length] at hX
                      have qn : ¬ ((ms.length : Int) < (ms.length : Int)) := by omega
                      go_wp2_with fail
                      clear qn hjl hwas hG HAT HUP HP hml
                      go_loopw [18] (fun iv wr => Rel4 w bc lb (lb + 1) S W wc n N cp cap sh Q (.slice Aq m cq) ws' row (laT ms t la) (stT ms ws st) iv wr) (fun iv _ => (N - intOf iv).toNat)
                      case atStart => exact ⟨0, _, _, rfl, by omega, hX⟩
                      case round =>
                        as_aux_lemma =>
                          clear hX
                          obtain ⟨i, ρ, sq, rfl, hiN, hX⟩ := hrel
                          obtain ⟨e0, e1, e2, e3, e4, e5, e6, e7, e8⟩ := hX.cells
                          by_cases hi : i < N
                          · have q1 : (i : Int) < (N : Int) := by omega
                            have q0 : (0 : Int) ≤ (i : Int) := by omega
                            have hql : Q.length ≤ 9223372036854775807 := by have := hQ.len; omega
                            have HFO := Lib.hid (firstOf_any wr _ Q (i : Nat) (One.hasQ hX.q rfl) hql)
                            have hcase : (firstE Q (i : Nat)).isSome = false ∨ ((firstE Q (i : Nat)).isSome = true ∧ 1 ≤ laT ms t la i ∧ laT ms t la i ≤ t ∧ t - laT ms t la i < cap) := by
                              cases he : firstE Q (i : Nat) with
                              | none => exact .inl rfl
                              | some e =>
                                obtain ⟨_, s', hp, _⟩ := HPT.out.some_ hi he
                                exact .inr ⟨rfl, hp.near ht1⟩
                            have HXh := Lib.hid hX
                            generalize hE : (firstE Q (i : Nat)).getD zeroEnt = E at HFO
                            clear hE
                            unfold entV at HFO
                            generalize (firstE Q (i : Nat)).isSome = B at HFO hcase
                            obtain ⟨LA, hLA⟩ : ∃ LA, laT ms t la i = LA := ⟨_, rfl⟩
                            rw [hLA] at hcase
                            rcases hcase with rfl | ⟨rfl, hl1, hl2, hl3⟩
                            · clear hLA hX
                              go_wp2_with (go_at_call 31; (with_reducible refine HFO.out.mono ?_); rintro e' wb ⟨rfl, hbb⟩; have hbc : Below wb.heap.size wb (wb.alloc (.cells #[.int .i64 E.peer, .int .u64 E.num, .string E.name, .int .u64 E.amt] 104)) := (Below.refl _ _).alloc (Nat.le_refl _) _; have hbs := HXh.out.bel.size; have Kc := (Keeps.below (fun _ => False) ρ hbb).trans (Keeps.below (fun _ => False) ρ hbc); have Xc := HXh.out.keep Kc (HXh.out.free.le Kc.1) ((hbb.mono hbs).trans (hbc.mono (Nat.le_trans hbs hbb.size))) (fun _ _ _ => id); clear HFO HXh hbb hbc Kc e0 e1 e2 e3 e4 e5 e6 e7 e8)
                              go_quiet (fail)
                              go_wp2_with fail
                              exact ⟨⟨i + 1, _, _, by go_num, by omega, Xc.drewN _⟩, by simp [intOf]; omega⟩
                            · have p1 : ((LA : Int) == 0) = false := by simp; omega
                              have p2 : decide ((cap : Int) ≤ (t : Int) - (LA : Int)) = false := by simp; omega
                              have p3 : IntKind.i64.wrap ((t : Int) - (LA : Int)) = (t : Int) - (LA : Int) := wrap_small _ (by omega) (by omega)
                              have HLA := Lib.hid hLA
                              clear hLA hX
                              go_wp2_with (go_at_call 31; (with_reducible refine HFO.out.mono ?_); rintro e' wb ⟨rfl, hbb⟩; have hbc : Below wb.heap.size wb (wb.alloc (.cells #[.int .i64 E.peer, .int .u64 E.num, .string E.name, .int .u64 E.amt] 104)) := (Below.refl _ _).alloc (Nat.le_refl _) _; have hbs := HXh.out.bel.size; have Kc := (Keeps.below (fun _ => False) ρ hbb).trans (Keeps.below (fun _ => False) ρ hbc); have Xc := HXh.out.keep Kc (HXh.out.free.le Kc.1) ((hbb.mono hbs).trans (hbc.mono (Nat.le_trans hbs hbb.size))) (fun _ _ _ => id); clear HFO HXh hbb hbc Kc e0 e1 e2 e3 e4 e5 e6 e7 e8; obtain ⟨e0, e1, e2, e3, e4, e5, e6, e7, e8⟩ := Xc.cells; have l1 := obj_cell Xc.last.1 i hi; rw [HLA.out] at l1; have HXc := Lib.hid Xc; clear Xc HLA)
                              go_quiet (fail)
                              go_wp2_with fail
                              exact ⟨⟨i + 1, _, _, by go_num, by omega, HXc.out.drewN _⟩, by simp [intOf]; omega⟩
                          · have hiN : i = N := by omega
                            have qn : ¬ (i : Int) < (N : Int) := by omega
                            clear hiN
                            go_wp2_with fail
                            exact ⟨⟨t + 1, _, _, _, _, _, by go_num, by omega, by omega, hX, HPT.out⟩, by simp [intOf]; omega⟩
            · have htM2 : t - 1 = M := by omega
              have qn : ¬ (t : Int) ≤ (M : Int) := by omega
              rw [htM2] at hP
              have hall : ∀ i j, i < N → j < cp → st i j = (firstE Q (i : Nat)).isSome := fun i j hi hj => by
                cases he : firstE Q (i : Nat) with
                | some e =>
                  obtain ⟨_, s', hp, h1⟩ := hP.some_ hi he
                  have := hp.many (k := cp) hccp.1 hccap.1 hM
                  rw [h1 j hj]
                  exact decide_eq_true (by omega)
                | none => exact (hP.none_ hi he).2.2 j
              have HA := Lib.hid hall
              clear hall hP htM2 hwm ht1 htM
              go_wp2_with fail
              clear qn e0 e1 e2 e3 e4 e5 e6 e7 e8
              go_loopw [21] (fun iv wr => Rel4 w bc lb (lb + 1) S W wc n N cp cap sh Q (.slice Aq m cq) ws row la st iv wr) (fun iv _ => (N - intOf iv).toNat)
              case atStart => exact ⟨0, _, _, rfl, by omega, hX⟩
              case round =>
                as_aux_lemma =>
                  clear hX
                  obtain ⟨i, ρ, sq, rfl, hiN, hX⟩ := hrel
                  obtain ⟨e0, e1, e2, e3, e4, e5, e6, e7, e8⟩ := hX.cells
                  by_cases hi : i < N
                  · have q1 : (i : Int) < (N : Int) := by omega
                    have q0 : (0 : Int) ≤ (i : Int) := by omega
                    have hql : Q.length ≤ 9223372036854775807 := by have := hQ.len; omega
                    have HFO := Lib.hid (firstOf_any wr _ Q (i : Nat) (One.hasQ hX.q rfl) hql)
                    have hst : ∀ j, j < cp → st i j = (firstE Q (i : Nat)).isSome := fun j hj => HA.out i j hi hj
                    have HXh := Lib.hid hX
                    generalize hE : (firstE Q (i : Nat)).getD zeroEnt = E at HFO
                    clear hE hX
                    unfold entV at HFO
                    generalize (firstE Q (i : Nat)).isSome = B at HFO hst
                    have HST := Lib.hid hst
                    clear hst
                    go_wp2_with (go_at_call 31; (with_reducible refine HFO.out.mono ?_); rintro e' wb ⟨rfl, hbb⟩; have hbc : Below wb.heap.size wb (wb.alloc (.cells #[.int .i64 E.peer, .int .u64 E.num, .string E.name, .int .u64 E.amt] 104)) := (Below.refl _ _).alloc (Nat.le_refl _) _; have hbs := HXh.out.bel.size; have Kc := (Keeps.below (fun _ => False) ρ hbb).trans (Keeps.below (fun _ => False) ρ hbc); have Xc := HXh.out.keep Kc (HXh.out.free.le Kc.1) ((hbb.mono hbs).trans (hbc.mono (Nat.le_trans hbs hbb.size))) (fun _ _ _ => id); clear HFO HXh hbb hbc Kc e0 e1 e2 e3 e4 e5 e6 e7 e8)
                    obtain ⟨wo, hwo⟩ : ∃ wo : World, wo = wr := ⟨_, rfl⟩
                    clear hwo wo
                    go_loopw [24] (fun kv wr => Rel5 w bc lb (lb + 1) S W wc n N cp cap sh Q (.slice Aq m cq) ws row la st kv wr) (fun kv _ => (cp - intOf kv).toNat)
                    case atStart => exact ⟨0, _, _, rfl, by omega, Xc⟩
                    case round =>
                      as_aux_lemma =>
                        clear Xc
                        obtain ⟨k, ρ, sq, rfl, hkc, hX⟩ := hrel
                        obtain ⟨e0, e1, e2, e3, e4, e5, e6, e7, e8⟩ := hX.cells
                        by_cases hk : k < cp
                        · have r1 : (k : Int) < (cp : Int) := by omega
                          have r0 : (0 : Int) ≤ (k : Int) := by omega
                          have s1 := obj_cell hX.sent.1 i hi
                          rw [if_pos hi] at s1
                          have s2 := obj_cell (hX.rows i hi).1 k hk
                          rw [HST.out k hk] at s2
                          have HXk := Lib.hid hX
                          clear hX
                          go_wp2_with fail
                          exact ⟨⟨k + 1, _, _, by go_num, by omega, HXk.out⟩, by simp [intOf]; omega⟩
                        · have rn : ¬ (k : Int) < (cp : Int) := by omega
                          go_wp2_with fail
                          exact ⟨⟨i + 1, _, _, by go_num, by omega, hX⟩, by simp [intOf]; omega⟩
                  · have qn : ¬ (i : Int) < (N : Int) := by omega
                    go_wp2_with fail
                    go_ret
                    exact ⟨rfl, hX.bel⟩
end Go.Proofs.Ytbgojhjlmlbfpaa
