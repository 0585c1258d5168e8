/- DiskFull: the walk. -/
import Derived.Test.YtgkpobajafjdeaaDtB
import Derived.Test.YtgkpobajafjdeaaDsF
namespace Go.Proofs.Ytgkpobajafjdeaa
open Go.RowKit Go.Maps

def zQ (g : Nat) : OpQ := ⟨1, 0, 0, ⟨#[122]⟩, ⟨#[]⟩, some ⟨g, 0, none⟩, 3, [101, 110, 100], 0, 0, 0, none, 0, 0⟩
/-- The last step, added to a list of steps. -/
theorem ListQ.end_ {W w4 w5 : World} {ρ : Nat → Nat} (hF : Free w4 ρ) (hbW : Below W.heap.size W w4) (hz : ∀ g, g < W.heap.size → ρ g = 0) (qs : List OpQ) {A5 : Option Addr} {cap5 : Nat} (hf : One w5 w4.heap.size 58 10 (.slice A5 qs.length cap5) qs.length (cO qs)) (hb5 : Below w4.heap.size w4 w5) (hq : ∀ q ∈ qs, q.At W W.heap.size ∧ q.b.length ≤ 4096 ∧ 1 ≤ q.kind ∧ q.kind ≤ 6) (hl : qs.length ≤ 1000) :
    ∃ A' cap' w7, (Builtin.append_ #[48, 48] 48 #[.slice A5 qs.length cap5, .slice (some ⟨(w5.alloc (.cells #[.int .u8 101, .int .u8 110, .int .u8 100] 5 (3, 4))).heap.size, 0, none⟩) 1 1]).run Try.prog ((w5.alloc (.cells #[.int .u8 101, .int .u8 110, .int .u8 100] 5 (3, 4))).alloc (.cells (zQ w5.heap.size).cells 58)) = .ok (.slice A' (qs.length + 1) cap') w7 ∧
      ListQ w7 W.heap.size ρ A' cap' (qs ++ [zQ w5.heap.size]) ∧ Below w4.heap.size w4 w7 := by
  have hal : Below w5.heap.size w5 (w5.alloc (.cells #[.int .u8 101, .int .u8 110, .int .u8 100] 5 (3, 4))) := (Below.refl _ _).alloc (Nat.le_refl _) _
  obtain ⟨A', cap', w7, r1, r2, r3, r4⟩ := append_op (w5.alloc (.cells #[.int .u8 101, .int .u8 110, .int .u8 100] 5 (3, 4))) w4.heap.size 48 (.slice A5 qs.length cap5) qs (zQ w5.heap.size) (hf.below hal) (by omega) (Nat.le_trans hb5.size hal.size)
  have hb7 : Below w4.heap.size w4 w7 := (hb5.trans (hal.mono hb5.size)).trans r3
  have hbW7 : Below W.heap.size W w7 := hbW.trans (hb7.mono hbW.size)
  refine ⟨A', cap', w7, r1, ⟨⟨?_, fun g hg => hF g (r2.block (show (Value.slice A' (qs.length + 1) cap').ownBlock = some g by rw [List.length_append] at hg; exact hg)).1⟩, fun q hq' => ?_⟩, hb7⟩
  · rw [List.length_append]
    exact r2.weak hbW.size
  · rcases List.mem_append.1 hq' with h | h
    · obtain ⟨h1, h2, h3⟩ := hq q h
      exact (h1.below hbW7).qz hbW7.size hz h2 h3
    · simp at h
      subst h
      refine ⟨(fun h => by cases h), (show (⟨#[122]⟩ : ByteArray).size ≤ maxLen by decide), (show (⟨#[]⟩ : ByteArray).size ≤ maxLen by decide), (show ([101, 110, 100] : BS).length ≤ 4096 by decide), fun _ => ⟨w5.heap.size, 0, rfl, ?_, hF _ hb5.size, fun k hk => ?_⟩, by show (1 : Int) ≤ 1 ∧ (1 : Int) ≤ 6; omega⟩
      · have := r4.size
        simp at this
        omega
      · have hbl := r4.block w5.heap.size (by simp; omega) (fun e => by have := (hf.block e.symm).2; omega)
        rw [Nat.zero_add]
        have h1 : w7.cell? ⟨w5.heap.size, k, none⟩ = ((w5.alloc (.cells #[.int .u8 101, .int .u8 110, .int .u8 100] 5 (3, 4))).alloc (.cells (zQ w5.heap.size).cells 58)).cell? ⟨w5.heap.size, k, none⟩ := World.cell?_of_block (a := ⟨w5.heap.size, k, none⟩) hbl
        rw [h1, ((Below.refl (w5.alloc (.cells #[.int .u8 101, .int .u8 110, .int .u8 100] 5 (3, 4))).heap.size _).alloc (Nat.le_refl _) _).cell (p := ⟨w5.heap.size, k, none⟩) (by simp), World.cell?_alloc_mark]
        rcases (by have : k < 3 := hk; omega : k = 0 ∨ k = 1 ∨ k = 2) with rfl | rfl | rfl <;> rfl
def FullRel (W : World) (A B : Nat) (qs : List OpQ) (Ao : Option Addr) (cap : Nat) (bx : Obj) (fr tt : Int) (nv iv : Value) (wr : World) : Prop :=
  ∃ (i : Nat) (a b : DM) (ρ : Nat → Nat), iv = .int .i64 i ∧ i ≤ qs.length ∧ nv = .int .i64 (a.strokes : Nat) ∧ TwoAt W A B a b i ρ wr ∧ ListQ wr W.heap.size ρ Ao cap qs ∧ Same a b ∧ a.off = false ∧ b.Calm ∧ a.plan = ⟨0, fr, tt⟩ ∧ a.count = a.strokes ∧ a.used ≤ 4096 * i ∧ a.room = 67108864 ∧ BoxAt wr ρ W.heap.size bx
set_option maxRecDepth 100000 in
set_option maxHeartbeats 8000000 in
theorem full_walk (W : World) (A0 : Option Addr) (n0 c0 : Nat) (off : Int) (Ap : Option Addr) (np cp : Nat) (A1 : Option Addr) (n1 c1 : Nat) (An : Option Addr) (nn cn : Nat) (l : List OpQ) (hn : l.length = n0) (hA : OpsIn W A0 l) (hq : ∀ q ∈ l, q.At W W.heap.size) (ps : List Int) (hps : ps.length = np) (hcp : np ≤ cp) (hP : PicksIn W Ap ps) :
    Calls Try.prog 6 #[.agg (powerC A0 n0 c0 off Ap np cp A1 n1 c1 An nn cn)] W fun e W' => e = .returned (.bool true) ∧ Below W.heap.size W W' := by
  have hwb : Below W.heap.size W (W.alloc (.cells (powerC A0 n0 c0 off Ap np cp A1 n1 c1 An nn cn) 65)) := (Below.refl _ _).alloc (Nat.le_refl _) _
  have hopen := open_any (W.alloc (.cells (powerC A0 n0 c0 off Ap np cp A1 n1 c1 An nn cn) 65)) W.heap.size 1 (fun _ => 0) (fun _ _ => rfl) hwb.size
  have hbx0 := heap_alloc_new W (.cells (powerC A0 n0 c0 off Ap np cp A1 n1 c1 An nn cn) 65)
  obtain ⟨bx, hbx⟩ : ∃ bx, Obj.cells (powerC A0 n0 c0 off Ap np cp A1 n1 c1 An nn cn) 65 (0, 0) = bx := ⟨_, rfl⟩
  have hqf : ∀ q ∈ fewQ l, q.At W W.heap.size ∧ q.b.length ≤ 4096 ∧ 1 ≤ q.kind ∧ q.kind ≤ 6 := fun q h => ⟨fewQ_at hq q h, fewQ_bytes h⟩
  have hfew : ∀ w, Below W.heap.size W w → Calls Try.prog 24 #[.slice A0 n0 c0] w (FewEnd l w) := fun w hb => few_any w A0 n0 c0 l hn (hA.below hb) (fun q h => (hq q h).cap)
  have hfl := fewQ_len l
  obtain ⟨x, hx⟩ : ∃ x, off % 20 = x := ⟨_, rfl⟩
  obtain ⟨y, hy⟩ : ∃ y, (nn : Int) % 5 = y := ⟨_, rfl⟩
  have hwi20 := fun w => within_any w off 20 (by omega) (by omega)
  have hwi5 := fun w => within_any w (nn : Int) 5 (by omega) (by omega)
  rw [hx] at hwi20
  rw [hy] at hwi5
  have hxr : 0 ≤ x ∧ x < 20 := by omega
  have hyr : 0 ≤ y ∧ y < 5 := by omega
  obtain ⟨fr, hfr⟩ : ∃ fr, 1 + x = fr := ⟨_, rfl⟩
  obtain ⟨tt, hto⟩ : ∃ tt, fr + y = tt := ⟨_, rfl⟩
  have hw1 : wrap64 (1 + x) = fr := by rw [← hfr]; unfold wrap64; omega
  have hw2 : wrap64 (fr + y) = tt := by rw [← hto]; unfold wrap64; omega
  have HFR := Lib.hid (show 1 ≤ fr by omega)
  have HOPEN := Lib.hid hopen
  have HWB := Lib.hid hwb
  have HBX0 := Lib.hid hbx0
  have HQF := Lib.hid hqf
  have HFEW := Lib.hid hfew
  have HFL := Lib.hid hfl
  have HPS := Lib.hid (And.intro hps (And.intro hcp hP))
  have HBX := Lib.hid hbx
  have HW20 := Lib.hid hwi20
  have HW5 := Lib.hid hwi5
  unfold powerC at HOPEN HWB HBX0 HBX ⊢
  clear hwb hopen hbx0 hqf hfew hfl hps hcp hP hn hA hq hx hy hwi20 hwi5 hxr hyr hfr hto hbx
  obtain ⟨k0, hkk, kz0, kz1, kz2⟩ := info_parts info_op
  have h3z : ([101, 110, 100] : BS).length = 3 := rfl
  go_enter Try.func6, Try.ntmps6
  go_wp2_with (first
    | (go_at_call 29; (with_reducible refine HOPEN.out.mono ?_); rintro e w1 ⟨A, rfl, ρ1, h1, K1, F1, B1⟩; have hop2 := open_any w1 W.heap.size 2 ρ1 F1 (Nat.le_trans HWB.out.size K1.1); have HOP2 := Lib.hid hop2; have HE1 := Lib.hid (And.intro h1 (And.intro K1 B1)); clear h1 K1 F1 B1 hop2)
    | (go_at_call 29; (with_reducible refine HOP2.out.mono ?_); rintro e w2 ⟨B, rfl, he2⟩; have htwo := TwoAt.open_ HWB.out HE1.out.1 HE1.out.2.1 HE1.out.2.2 he2; obtain ⟨ρ2, hT2, K2⟩ := htwo; have hob : BoxAt w2 ρ2 W.heap.size bx := BoxAt.keep (ρ := fun _ => 0) ⟨by rw [← HBX.out]; exact HBX0.out, rfl⟩ K2 (fun h => h rfl); have d1 : w2.cell? ⟨W.heap.size, 1, none⟩ = some (.int .i64 off) := (by have h0 := hob.1; rw [← HBX.out] at h0; exact cell_of_obj h0 1); have d4 : w2.cell? ⟨W.heap.size, 4, none⟩ = some (.slice An nn cn) := (by have h0 := hob.1; rw [← HBX.out] at h0; exact cell_of_obj h0 4); have HT2 := Lib.hid hT2; have HOB := Lib.hid hob; have HZ := Lib.hid (show ∀ g, g < W.heap.size → ρ2 g = 0 from fun g hg => (K2.2 g (Nat.lt_of_lt_of_le hg HWB.out.size)).1); have HPLAN := Lib.hid (hT2.planA ⟨0, fr, tt⟩); clear he2 hT2 K2 hob)
    | (go_at_call 22; (with_reducible refine (HW20.out _).mono ?_); rintro e w3 ⟨rfl, rfl⟩)
    | (go_at_call 22; (with_reducible refine (HW5.out _).mono ?_); rintro e w3 ⟨rfl, rfl⟩)
    | (go_at_call 32; (with_reducible refine HPLAN.out.mono ?_); rintro e w3 ⟨rfl, hT3, K3⟩; have HOB3 := Lib.hid (HOB.out.keep K3 r12); have d0 : w3.cell? ⟨W.heap.size, 0, none⟩ = some (.slice A0 n0 c0) := (by have h0 := HOB3.out.1; rw [← HBX.out] at h0; exact cell_of_obj h0 0); have HT3 := Lib.hid hT3; clear hT3 K3)
    | (go_at_call 24; (with_reducible refine (HFEW.out _ HT3.out.below).mono ?_); rintro e w5 ⟨A5, cap5, rfl, hf5, hb5⟩; have hcv := Lib.run_convert_bytes_const (P := Try.prog) w5 26 5 #[.int .u8 101, .int .u8 110, .int .u8 100] 3 3 Try.underlying26 Try.underlying5; simp only [List.size_toArray, List.length_cons, List.length_nil, Nat.zero_add, Nat.reduceAdd] at hcv; obtain ⟨A7, cap7, w7, r1, r2, r3⟩ := ListQ.end_ HT3.out.free HT3.out.below HZ.out (fewQ l) hf5 hb5 HQF.out (by have := HFL.out; omega); unfold zQ OpQ.cells at r1; dsimp only at r1; rw [h3z] at r1; have HR1 := Lib.hid r1; have HR2 := Lib.hid r2; have HT7 := Lib.hid (HT3.out.go r3); have HOB7 := Lib.hid (HOB3.out.below r3); clear hf5 hb5 r1 r2 r3)
    | (refine wpList_buildSlice rfl 48 58 1 #[(0, .tmp 41)] rfl #[.int .i64 1, .int .i64 0, .int .i64 0, .string ⟨#[122]⟩, .string ⟨#[]⟩, .slice (some ⟨w5.heap.size, 0, none⟩) 3 3, .int .i64 0, .int .i64 0, .int .i64 0, .slice none 0 0] k0 (.agg #[.int .i64 0, .int .i64 0, .int .i64 0, .string ⟨#[]⟩, .string ⟨#[]⟩, .slice none 0 0, .int .i64 0, .int .i64 0, .int .i64 0, .slice none 0 0]) Try.underlying48 hkk kz0 (by rw [kz1]; decide) (by rw [kz1]; decide) (by rw [kz1]; refine Eq.trans (congrArg (Instr.fill _ _) ?_) (op_fill 1 0 0 ⟨#[122]⟩ ⟨#[]⟩ (some ⟨w5.heap.size, 0, none⟩) 3 3 0 0 0 none 0 0); simp only [List.map_toArray, List.map_cons, List.map_nil, Act.eval]; rfl) ?_)
    | (refine wpList_append_by (vs := .slice A5 (fewQ l).length cap5) (vx := .slice (some ⟨(w5.alloc (.cells #[.int .u8 101, .int .u8 110, .int .u8 100] 5 (3, 4))).heap.size, 0, none⟩) 1 1) rfl (.tmp 38) (.tmp 42) 48 rfl rfl rfl HR1.out ?_)
    | fail)
  obtain ⟨qs, hqs⟩ : ∃ qs, fewQ l ++ [zQ w5.heap.size] = qs := ⟨_, rfl⟩
  have hlen : (fewQ l).length + 1 = qs.length := by rw [← hqs, List.length_append]; rfl
  rw [hqs] at HR2
  obtain ⟨N, hN⟩ : ∃ N, qs.length = N := ⟨_, rfl⟩
  rw [hN] at hlen
  rw [hlen]
  have HN := Lib.hid hN
  have HNL := Lib.hid (show N ≤ 201 by have := HFL.out; omega)
  have hsp : (DM.new 67108864).setPlan ⟨0, fr, tt⟩ = { DM.new 67108864 with plan := ⟨0, fr, tt⟩ } := rfl
  rw [hsp] at HT7
  clear hqs hlen hN hsp hcv d0 d1 d4 HR1 HT3 HOB3 HPLAN HOB HT2 HZ HOP2 HE1 HOPEN HFEW hkk kz0 kz1 kz2 h3z hw1 hw2
  go_loopw [7, 9] (fun nv iv wr => FullRel W A B qs A7 cap7 bx fr tt nv iv wr) (fun _ iv _ => (N - intOf iv).toNat)
  case atStart =>
    exact ⟨0, _, _, ρ2, rfl, Nat.zero_le _, rfl, HT7.out, HR2.out, ⟨rfl, rfl, rfl, rfl, rfl, rfl⟩, rfl, Calm.new _, rfl, rfl, Nat.le_refl _, rfl, HOB7.out⟩
  case round =>
    obtain ⟨i, a, b, ρ, rfl, hi, rfl, hT, hLQ, hS, hoff, hcb, hpl, hcs, hus, hrm, hob⟩ := hrel
    rw [HN.out] at hi
    have hnl := HNL.out
    have hnn := HN.out
    by_cases hlt : i < N
    · have q1 : (i : Int) < (N : Int) := by omega
      obtain ⟨q, hq⟩ : ∃ q, qs[i]? = some q := ⟨qs[i]'(by omega), List.getElem?_eq_getElem _⟩
      have hqm := List.mem_of_getElem? hq
      have hqz := hLQ.each q hqm
      have hkk := hqz.kind
      have hlen := hqz.len
      obtain ⟨gq, rfl, d0, d1, d2, d3, d4, d5, d6, d7, d8, d9⟩ := hLQ.at_ hq
      have hso : a.stroke.off = false := by
        unfold DM.stroke
        rw [hpl]
        simp
        omega
      have hcount := op_count hoff q.toM hkk
      have hused : (a.op q.toM).1.used ≤ 4096 * (i + 1) := used_next (op_used hT.oka q.toM) hus hlen
      have hfull := append_full hso hoff q.name.data.toList q.b (by have h1 := hus; rw [hrm]; omega)
      have hsame := hS.op (hso.trans (stroke_off hcb).symm) q.toM
      have hcalb := op_calm hcb q.toM
      have hrm' := op_room a q.toM
      have hoff' : (a.op q.toM).1.off = false := by
        exact op_off hoff hso q.toM
      have hkind : q.kind = 1 → a.op q.toM = a.append q.name.data.toList q.b := fun e => by unfold DM.op; exact if_pos e
      have hfb := stroke_full hcb
      have hal : Below wr.heap.size wr (wr.alloc (.cells q.cells 58)) := (Below.refl _ _).alloc (Nat.le_refl _) _
      have hT1 := hT.go hal
      have hc1 := crash_of hT1.da hT.oka hT.sza (by omega) HPS.out.1 HPS.out.2.1 (HPS.out.2.2.below hT1.below)
      have hisf : a.stroke.isFull = (decide (fr ≤ ((a.strokes + 1 : Nat) : Int)) && decide (((a.strokes + 1 : Nat) : Int) ≤ tt) && decide (0 < fr)) := by
        unfold DM.isFull
        have e1 : a.stroke.plan = ⟨0, fr, tt⟩ := hpl
        have e2 : a.stroke.count = a.strokes + 1 := by show a.count + 1 = _; rw [hcs]
        rw [e1, e2]
      -- MARKA
      obtain ⟨r, hr⟩ : ∃ r, a.op q.toM = r := ⟨_, rfl⟩
      obtain ⟨rb, hrb⟩ : ∃ rb, b.op q.toM = rb := ⟨_, rfl⟩
      rw [hr] at hcount hused hsame hrm' hoff' hkind
      rw [hrb] at hsame hcalb
      obtain ⟨a', er⟩ := r
      obtain ⟨b', er2⟩ := rb
      obtain ⟨kd, on, nq, name, dst, Ab, cb, bs, p0, p1, p2, Aq, np2, cp2⟩ := q
      unfold CountOk at hcount
      dsimp only at hcount hused hsame hrm' hoff' hcalb d0 d1 d2 d3 d4 d5 d6 d7 d8 d9 hkk hlen hfull hkind hal hT1 hc1
      obtain ⟨img, himg⟩ : ∃ img, a.crash ps = img := ⟨_, rfl⟩
      have hi64 := crash_len hT.oka ps
      have hisz : ∀ x ∈ a.crash ps, x.2.length ≤ 1000000000000 := fun x hx => by have h1 := crash_le hx; have h2 := hT.sza.tot; omega
      rw [himg] at hi64 hisz
      obtain ⟨LI, hLI⟩ : ∃ LI, img.length = LI := ⟨_, rfl⟩
      unfold CrashEnd at hc1
      rw [himg, hLI] at hc1
      obtain ⟨Lb, hLb⟩ : ∃ Lb, bs.length = Lb := ⟨_, rfl⟩
      unfold OpQ.cells at hc1 hT1 hal
      dsimp only at hc1 hT1 hal
      rw [hLb] at d5 hc1 hT1 hal
      have dd2 : (wr.alloc (.cells #[.int .i64 kd, .int .i64 on, .int .i64 nq, .string name, .string dst, .slice Ab Lb cb, .int .i64 p0, .int .i64 p1, .int .i64 p2, .slice Aq np2 cp2] 58)).cell? ⟨W.heap.size, 2, none⟩ = some (.slice Ap np cp) := by
        have h0 := (hob.below hal).1
        rw [← HBX.out] at h0
        exact cell_of_obj h0 2
      obtain ⟨s, hs⟩ : ∃ s, a.strokes = s := ⟨_, rfl⟩
      obtain ⟨s1, hs1⟩ : ∃ s1, s + 1 = s1 := ⟨_, rfl⟩
      have hsl : s ≤ 201 := by have := hT.sza.strokes; omega
      have hwn : wrap64 ((s : Int) + 1) = (s1 : Int) := by rw [← hs1]; unfold wrap64; omega
      rw [hs, hs1] at hisf
      rw [hs] at hcount ⊢
      rw [hs1] at hcount
      have HT1 := Lib.hid hT1
      have HC1 := Lib.hid hc1
      have HOB1 := Lib.hid (hob.below hal)
      have HLQ1 := Lib.hid (hLQ.below hal)
      have HI := Lib.hid (show i ≤ 1000 by omega)
      have HI2L := Lib.hid (show i + 1 ≤ 1001 by omega)
      have HQM := Lib.hid hqm
      have HOPQ := Lib.hid hr
      have HOPB := Lib.hid hrb
      have HLB := Lib.hid hLb
      have HSZB := Lib.hid hT.szb
      have HFREW := Lib.hid hT.free
      have HLIM := Lib.hid hLI
      have HLI64 := Lib.hid (show LI ≤ 64 by omega)
      have HISZ := Lib.hid hisz
      have HCB := Lib.hid hcb
      have HW := Lib.hid (w64s (k := i) (by omega))
      have HLT := Lib.hid hlt
      have HSS := Lib.hid (And.intro hs hs1)
      by_cases k1 : kd = 1
      · subst k1
        have hke := hkind rfl
        rw [← hke] at hfull
        dsimp only at hfull
        rcases hfull with ⟨rfl, ha'⟩ | ⟨rfl, hfu, ha'⟩ | ⟨rfl, hfu⟩
        · have hdum := True.intro
          have hb41 := append_41 hS hoff name.data.toList bs (by rw [← hke]) hso
          have hkb : b.op (OpQ.toM ⟨1, on, nq, name, dst, Ab, cb, bs, p0, p1, p2, Aq, np2, cp2⟩) = b.append name.data.toList bs := rfl
          have hx := hrb.symm.trans (hkb.trans hb41)
          injection hx with hb1 hb2
          subst hb2
          have HSM := Lib.hid (show Same a' b' by rw [ha', hb1]; exact hS)
          have HSTR := Lib.hid (show a'.strokes = s by rw [ha', hs])
          have hcnt : a'.count = a'.strokes := by rw [ha']; exact hcs
          have HST := Lib.hid (And.intro hoff' (And.intro hcalb (And.intro (hrm'.2.trans hpl) (And.intro hcnt (And.intro hused (hrm'.1.trans hrm))))))
          have z41 : countedB 41 = false := rfl
          clear hb41 hkb hb1 hcnt ha' hke hwn
          clear hr hrb hcount hused hsame hrm' hoff' hkind hcalb hi64 hisz hLI himg hc1 hT1 hal hLb hlen hkk hqm hqz hq hlt hT hLQ hS hoff hcb hpl hcs hus hrm hob hnl hnn hi hso hfb hs hs1 hsl hisf
          go_wp2_with (first
            | (go_at_call 21; (with_reducible refine HC1.out.mono ?_); rintro ex w2 ⟨A11, cap11, rfl, hi2, hb2⟩; have HI2 := Lib.hid (hi2.z (fun g hg => HT1.out.free g hg)); have hT2 := HT1.out.go hb2; have HOB2 := Lib.hid (HOB1.out.below hb2); have HLQ2 := Lib.hid (HLQ1.out.below hb2); have HFRE := Lib.hid hT2.free; have hpa := hT2.playA HI.out (HLQ2.out.each _ HQM.out); rw [HOPQ.out] at hpa; unfold OpQ.agg at hpa; dsimp only at hpa; rw [HLB.out] at hpa; have HPA := Lib.hid hpa; have HBQ := Lib.hid ((hb2.block wr.heap.size (by simp)).trans (heap_alloc_new wr _)); have HB12 := Lib.hid (Nat.lt_of_lt_of_le (by simp : wr.heap.size < (wr.alloc (.cells #[.int .i64 1, .int .i64 on, .int .i64 nq, .string name, .string dst, .slice Ab Lb cb, .int .i64 p0, .int .i64 p1, .int .i64 p2, .slice Aq np2 cp2] 58)).heap.size) hb2.size); have f0 : w2.cell? ⟨wr.heap.size, 0, none⟩ = some (.int .i64 1) := cell_of_obj HBQ.out 0; have f1 : w2.cell? ⟨wr.heap.size, 1, none⟩ = some (.int .i64 on) := cell_of_obj HBQ.out 1; have f2 : w2.cell? ⟨wr.heap.size, 2, none⟩ = some (.int .i64 nq) := cell_of_obj HBQ.out 2; have f3 : w2.cell? ⟨wr.heap.size, 3, none⟩ = some (.string name) := cell_of_obj HBQ.out 3; have f4 : w2.cell? ⟨wr.heap.size, 4, none⟩ = some (.string dst) := cell_of_obj HBQ.out 4; have f5 : w2.cell? ⟨wr.heap.size, 5, none⟩ = some (.slice Ab Lb cb) := cell_of_obj HBQ.out 5; have f6 : w2.cell? ⟨wr.heap.size, 6, none⟩ = some (.int .i64 p0) := cell_of_obj HBQ.out 6; have f7 : w2.cell? ⟨wr.heap.size, 7, none⟩ = some (.int .i64 p1) := cell_of_obj HBQ.out 7; have f8 : w2.cell? ⟨wr.heap.size, 8, none⟩ = some (.int .i64 p2) := cell_of_obj HBQ.out 8; have f9 : w2.cell? ⟨wr.heap.size, 9, none⟩ = some (.slice Aq np2 cp2) := cell_of_obj HBQ.out 9; clear hi2 hb2 hT2 hpa)
            | (go_at_call 26; (with_reducible refine HPA.out.mono ?_); rintro ex w3 ⟨rfl, ρ3, hT3, K3⟩; have hob := ((K3.2 wr.heap.size HB12.out).2 (by rw [HFREW.out _ (Nat.le_refl _)]; exact r12)).trans HBQ.out; have e0 : w3.cell? ⟨wr.heap.size, 0, none⟩ = some (.int .i64 1) := cell_of_obj hob 0; have e1 : w3.cell? ⟨wr.heap.size, 1, none⟩ = some (.int .i64 on) := cell_of_obj hob 1; have e2 : w3.cell? ⟨wr.heap.size, 2, none⟩ = some (.int .i64 nq) := cell_of_obj hob 2; have e3 : w3.cell? ⟨wr.heap.size, 3, none⟩ = some (.string name) := cell_of_obj hob 3; have e4 : w3.cell? ⟨wr.heap.size, 4, none⟩ = some (.string dst) := cell_of_obj hob 4; have e5 : w3.cell? ⟨wr.heap.size, 5, none⟩ = some (.slice Ab Lb cb) := cell_of_obj hob 5; have e6 : w3.cell? ⟨wr.heap.size, 6, none⟩ = some (.int .i64 p0) := cell_of_obj hob 6; have e7 : w3.cell? ⟨wr.heap.size, 7, none⟩ = some (.int .i64 p1) := cell_of_obj hob 7; have e8 : w3.cell? ⟨wr.heap.size, 8, none⟩ = some (.int .i64 p2) := cell_of_obj hob 8; have e9 : w3.cell? ⟨wr.heap.size, 9, none⟩ = some (.slice Aq np2 cp2) := cell_of_obj hob 9; have HT3 := Lib.hid hT3; have HQ3 := Lib.hid (HLQ2.out.keep K3 r12); have HOB3 := Lib.hid (HOB2.out.keep K3 r12); have HI3 := Lib.hid (HI2.out.keep K3 r12); have hpb := hT3.playB HSZB.out HI.out (HQ3.out.each _ HQM.out); rw [HOPB.out] at hpb; unfold OpQ.agg at hpb; dsimp only at hpb; rw [HLB.out] at hpb; have HPB := Lib.hid hpb; clear hpb; clear hob hT3 K3)
            | (go_at_call 33; (with_reducible refine (counted_any _ _).mono ?_); rintro ex w4 ⟨rfl, rfl⟩)
            | (go_at_call 26; (with_reducible refine HPB.out.mono ?_); rintro ex w5 ⟨rfl, ρ5, hT5, K5⟩; have HT5 := Lib.hid (And.intro hT5 (And.intro (HQ3.out.keep K5 r12) (HOB3.out.keep K5 r12))); clear hT5 K5)
            | fail)
          exact ⟨⟨i + 1, a', b', ρ5, by first | rfl | exact congrArg _ HW.out, by rw [HN.out]; exact HLT.out, by rw [HSTR.out], HT5.out.1, HT5.out.2.1, HSM.out, HST.out.1, HST.out.2.1, HST.out.2.2.1, HST.out.2.2.2.1, HST.out.2.2.2.2.1, HST.out.2.2.2.2.2, HT5.out.2.2⟩, by first | exact measure_less HLT.out | (rw [HW.out]; exact measure_less HLT.out)⟩
        · have hdum := True.intro
          rw [hfu] at hisf
          obtain ⟨q6, q7⟩ := full_both hisf
          have HSM := Lib.hid (show Same a' b by rw [ha']; exact hS.strike (hso.trans hcb.off.symm))
          have HSTR := Lib.hid (strikes ha' hs hs1)
          have hcnt := strikec ha' hcs
          have HCR3 := Lib.hid (show a'.crash ps = img by rw [ha', crash_stroke]; exact himg)
          have HST := Lib.hid (And.intro hoff' (And.intro hcalb (And.intro (hrm'.2.trans hpl) (And.intro hcnt (And.intro hused (hrm'.1.trans hrm))))))
          have z44 : countedB 44 = true := rfl
          have HWN := Lib.hid hwn
          clear hfu hcnt ha' hke
          clear hr hrb hcount hused hsame hrm' hoff' hkind hcalb hi64 hisz hLI himg hc1 hT1 hal hLb hlen hkk hqm hqz hq hlt hT hLQ hS hoff hcb hpl hcs hus hrm hob hnl hnn hi hso hfb hs hs1 hsl hisf
          go_wp2_with (first
            | (go_at_call 21; (with_reducible refine HC1.out.mono ?_); rintro ex w2 ⟨A11, cap11, rfl, hi2, hb2⟩; have HI2 := Lib.hid (hi2.z (fun g hg => HT1.out.free g hg)); have hT2 := HT1.out.go hb2; have HOB2 := Lib.hid (HOB1.out.below hb2); have HLQ2 := Lib.hid (HLQ1.out.below hb2); have HFRE := Lib.hid hT2.free; have hpa := hT2.playA HI.out (HLQ2.out.each _ HQM.out); rw [HOPQ.out] at hpa; unfold OpQ.agg at hpa; dsimp only at hpa; rw [HLB.out] at hpa; have HPA := Lib.hid hpa; have HBQ := Lib.hid ((hb2.block wr.heap.size (by simp)).trans (heap_alloc_new wr _)); have HB12 := Lib.hid (Nat.lt_of_lt_of_le (by simp : wr.heap.size < (wr.alloc (.cells #[.int .i64 1, .int .i64 on, .int .i64 nq, .string name, .string dst, .slice Ab Lb cb, .int .i64 p0, .int .i64 p1, .int .i64 p2, .slice Aq np2 cp2] 58)).heap.size) hb2.size); have f0 : w2.cell? ⟨wr.heap.size, 0, none⟩ = some (.int .i64 1) := cell_of_obj HBQ.out 0; have f1 : w2.cell? ⟨wr.heap.size, 1, none⟩ = some (.int .i64 on) := cell_of_obj HBQ.out 1; have f2 : w2.cell? ⟨wr.heap.size, 2, none⟩ = some (.int .i64 nq) := cell_of_obj HBQ.out 2; have f3 : w2.cell? ⟨wr.heap.size, 3, none⟩ = some (.string name) := cell_of_obj HBQ.out 3; have f4 : w2.cell? ⟨wr.heap.size, 4, none⟩ = some (.string dst) := cell_of_obj HBQ.out 4; have f5 : w2.cell? ⟨wr.heap.size, 5, none⟩ = some (.slice Ab Lb cb) := cell_of_obj HBQ.out 5; have f6 : w2.cell? ⟨wr.heap.size, 6, none⟩ = some (.int .i64 p0) := cell_of_obj HBQ.out 6; have f7 : w2.cell? ⟨wr.heap.size, 7, none⟩ = some (.int .i64 p1) := cell_of_obj HBQ.out 7; have f8 : w2.cell? ⟨wr.heap.size, 8, none⟩ = some (.int .i64 p2) := cell_of_obj HBQ.out 8; have f9 : w2.cell? ⟨wr.heap.size, 9, none⟩ = some (.slice Aq np2 cp2) := cell_of_obj HBQ.out 9; clear hi2 hb2 hT2 hpa)
            | (go_at_call 26; (with_reducible refine HPA.out.mono ?_); rintro ex w3 ⟨rfl, ρ3, hT3, K3⟩; have hob := ((K3.2 wr.heap.size HB12.out).2 (by rw [HFREW.out _ (Nat.le_refl _)]; exact r12)).trans HBQ.out; have e0 : w3.cell? ⟨wr.heap.size, 0, none⟩ = some (.int .i64 1) := cell_of_obj hob 0; have e1 : w3.cell? ⟨wr.heap.size, 1, none⟩ = some (.int .i64 on) := cell_of_obj hob 1; have e2 : w3.cell? ⟨wr.heap.size, 2, none⟩ = some (.int .i64 nq) := cell_of_obj hob 2; have e3 : w3.cell? ⟨wr.heap.size, 3, none⟩ = some (.string name) := cell_of_obj hob 3; have e4 : w3.cell? ⟨wr.heap.size, 4, none⟩ = some (.string dst) := cell_of_obj hob 4; have e5 : w3.cell? ⟨wr.heap.size, 5, none⟩ = some (.slice Ab Lb cb) := cell_of_obj hob 5; have e6 : w3.cell? ⟨wr.heap.size, 6, none⟩ = some (.int .i64 p0) := cell_of_obj hob 6; have e7 : w3.cell? ⟨wr.heap.size, 7, none⟩ = some (.int .i64 p1) := cell_of_obj hob 7; have e8 : w3.cell? ⟨wr.heap.size, 8, none⟩ = some (.int .i64 p2) := cell_of_obj hob 8; have e9 : w3.cell? ⟨wr.heap.size, 9, none⟩ = some (.slice Aq np2 cp2) := cell_of_obj hob 9; have HT3 := Lib.hid hT3; have HQ3 := Lib.hid (HLQ2.out.keep K3 r12); have HOB3 := Lib.hid (HOB2.out.keep K3 r12); have HI3 := Lib.hid (HI2.out.keep K3 r12); have hc3 := crash_of hT3.da hT3.oka hT3.sza (by have := HI2L.out; omega) HPS.out.1 HPS.out.2.1 (HPS.out.2.2.below hT3.below); unfold CrashEnd at hc3; rw [HCR3.out, HLIM.out] at hc3; have HC3 := Lib.hid hc3; have d2 : w3.cell? ⟨W.heap.size, 2, none⟩ = some (.slice Ap np cp) := (by have h0 := HOB3.out.1; rw [← HBX.out] at h0; exact cell_of_obj h0 2); clear hc3; clear hob hT3 K3)
            | (go_at_call 33; (with_reducible refine (counted_any _ _).mono ?_); rintro ex w4 ⟨rfl, rfl⟩)
            | (go_at_call 21; (with_reducible refine HC3.out.mono ?_); rintro ex w6 ⟨A12, cap12, rfl, hi6, hb6⟩; have him := image_any w6 A12 A11 img img LI LI cap12 cap11 HLIM.out HLIM.out hi6.rdI ((HI3.out.below hb6).at_.rdI) (by have := HLI64.out; omega) HISZ.out; rw [decide_eq_true rfl] at him; have HIM := Lib.hid him; have HB6 := Lib.hid hb6; clear hi6 hb6 him)
            | (go_at_call 20; (with_reducible refine HIM.out.mono ?_); rintro ex w7 ⟨rfl, m7, rfl⟩)
            | fail)
          exact ⟨⟨i + 1, a', b, ρ3, by first | rfl | exact congrArg _ HW.out, by rw [HN.out]; exact HLT.out, by first | (rw [HSTR.out]; done) | (rw [HSTR.out]; exact congrArg _ HWN.out), (HT3.out.go HB6.out).go (below_drewN _ _), (HQ3.out.below HB6.out).below (below_drewN _ _), HSM.out, HST.out.1, HCB.out, HST.out.2.2.1, HST.out.2.2.2.1, HST.out.2.2.2.2.1, HST.out.2.2.2.2.2, (HOB3.out.below HB6.out).below (below_drewN _ _)⟩, by first | exact measure_less HLT.out | (rw [HW.out]; exact measure_less HLT.out)⟩
        · have hdum := True.intro
          obtain ⟨he2, hsm⟩ := hsame (fun _ => hfu.trans hfb.symm)
          subst he2
          have hcn : a'.strokes = s1 ∧ a'.count = a.count + 1 := by
            rcases hcount with ⟨_, hc⟩ | ⟨h1, h2, _⟩
            · exact absurd hc (by decide)
            · exact ⟨h1, h2⟩
          obtain ⟨h1, h2⟩ := hcn
          have hcn := True.intro
          have HSM := Lib.hid hsm
          have HSTR := Lib.hid h1
          have hcnt : a'.count = a'.strokes := by rw [h1, h2, hcs, hs, hs1]
          have HST := Lib.hid (And.intro hoff' (And.intro hcalb (And.intro (hrm'.2.trans hpl) (And.intro hcnt (And.intro hused (hrm'.1.trans hrm))))))
          have z0 : countedB 0 = true := rfl
          rw [hfu] at hisf
          by_cases c6 : fr ≤ (s1 : Int)
          · have q6 : decide (fr ≤ (s1 : Int)) = true := decide_eq_true c6
            have q7 : decide ((s1 : Int) ≤ tt) = false := by
              have h0 : 0 < fr := by have := HFR.out; omega
              rw [q6, decide_eq_true h0] at hisf
              simpa using hisf.symm
            have HWN := Lib.hid hwn
            clear hcn h1 h2 hcnt hke hfu hsm c6
            clear hr hrb hcount hused hsame hrm' hoff' hkind hcalb hi64 hisz hLI himg hc1 hT1 hal hLb hlen hkk hqm hqz hq hlt hT hLQ hS hoff hcb hpl hcs hus hrm hob hnl hnn hi hso hfb hs hs1 hsl hisf
            go_wp2_with (first
              | (go_at_call 21; (with_reducible refine HC1.out.mono ?_); rintro ex w2 ⟨A11, cap11, rfl, hi2, hb2⟩; have HI2 := Lib.hid (hi2.z (fun g hg => HT1.out.free g hg)); have hT2 := HT1.out.go hb2; have HOB2 := Lib.hid (HOB1.out.below hb2); have HLQ2 := Lib.hid (HLQ1.out.below hb2); have HFRE := Lib.hid hT2.free; have hpa := hT2.playA HI.out (HLQ2.out.each _ HQM.out); rw [HOPQ.out] at hpa; unfold OpQ.agg at hpa; dsimp only at hpa; rw [HLB.out] at hpa; have HPA := Lib.hid hpa; have HBQ := Lib.hid ((hb2.block wr.heap.size (by simp)).trans (heap_alloc_new wr _)); have HB12 := Lib.hid (Nat.lt_of_lt_of_le (by simp : wr.heap.size < (wr.alloc (.cells #[.int .i64 1, .int .i64 on, .int .i64 nq, .string name, .string dst, .slice Ab Lb cb, .int .i64 p0, .int .i64 p1, .int .i64 p2, .slice Aq np2 cp2] 58)).heap.size) hb2.size); have f0 : w2.cell? ⟨wr.heap.size, 0, none⟩ = some (.int .i64 1) := cell_of_obj HBQ.out 0; have f1 : w2.cell? ⟨wr.heap.size, 1, none⟩ = some (.int .i64 on) := cell_of_obj HBQ.out 1; have f2 : w2.cell? ⟨wr.heap.size, 2, none⟩ = some (.int .i64 nq) := cell_of_obj HBQ.out 2; have f3 : w2.cell? ⟨wr.heap.size, 3, none⟩ = some (.string name) := cell_of_obj HBQ.out 3; have f4 : w2.cell? ⟨wr.heap.size, 4, none⟩ = some (.string dst) := cell_of_obj HBQ.out 4; have f5 : w2.cell? ⟨wr.heap.size, 5, none⟩ = some (.slice Ab Lb cb) := cell_of_obj HBQ.out 5; have f6 : w2.cell? ⟨wr.heap.size, 6, none⟩ = some (.int .i64 p0) := cell_of_obj HBQ.out 6; have f7 : w2.cell? ⟨wr.heap.size, 7, none⟩ = some (.int .i64 p1) := cell_of_obj HBQ.out 7; have f8 : w2.cell? ⟨wr.heap.size, 8, none⟩ = some (.int .i64 p2) := cell_of_obj HBQ.out 8; have f9 : w2.cell? ⟨wr.heap.size, 9, none⟩ = some (.slice Aq np2 cp2) := cell_of_obj HBQ.out 9; clear hi2 hb2 hT2 hpa)
              | (go_at_call 26; (with_reducible refine HPA.out.mono ?_); rintro ex w3 ⟨rfl, ρ3, hT3, K3⟩; have hob := ((K3.2 wr.heap.size HB12.out).2 (by rw [HFREW.out _ (Nat.le_refl _)]; exact r12)).trans HBQ.out; have e0 : w3.cell? ⟨wr.heap.size, 0, none⟩ = some (.int .i64 1) := cell_of_obj hob 0; have e1 : w3.cell? ⟨wr.heap.size, 1, none⟩ = some (.int .i64 on) := cell_of_obj hob 1; have e2 : w3.cell? ⟨wr.heap.size, 2, none⟩ = some (.int .i64 nq) := cell_of_obj hob 2; have e3 : w3.cell? ⟨wr.heap.size, 3, none⟩ = some (.string name) := cell_of_obj hob 3; have e4 : w3.cell? ⟨wr.heap.size, 4, none⟩ = some (.string dst) := cell_of_obj hob 4; have e5 : w3.cell? ⟨wr.heap.size, 5, none⟩ = some (.slice Ab Lb cb) := cell_of_obj hob 5; have e6 : w3.cell? ⟨wr.heap.size, 6, none⟩ = some (.int .i64 p0) := cell_of_obj hob 6; have e7 : w3.cell? ⟨wr.heap.size, 7, none⟩ = some (.int .i64 p1) := cell_of_obj hob 7; have e8 : w3.cell? ⟨wr.heap.size, 8, none⟩ = some (.int .i64 p2) := cell_of_obj hob 8; have e9 : w3.cell? ⟨wr.heap.size, 9, none⟩ = some (.slice Aq np2 cp2) := cell_of_obj hob 9; have HT3 := Lib.hid hT3; have HQ3 := Lib.hid (HLQ2.out.keep K3 r12); have HOB3 := Lib.hid (HOB2.out.keep K3 r12); have HI3 := Lib.hid (HI2.out.keep K3 r12); have hpb := hT3.playB HSZB.out HI.out (HQ3.out.each _ HQM.out); rw [HOPB.out] at hpb; unfold OpQ.agg at hpb; dsimp only at hpb; rw [HLB.out] at hpb; have HPB := Lib.hid hpb; clear hpb; clear hob hT3 K3)
              | (go_at_call 33; (with_reducible refine (counted_any _ _).mono ?_); rintro ex w4 ⟨rfl, rfl⟩)
              | (go_at_call 26; (with_reducible refine HPB.out.mono ?_); rintro ex w5 ⟨rfl, ρ5, hT5, K5⟩; have HT5 := Lib.hid (And.intro hT5 (And.intro (HQ3.out.keep K5 r12) (HOB3.out.keep K5 r12))); clear hT5 K5)
              | fail)
            exact ⟨⟨i + 1, a', b', ρ5, by first | rfl | exact congrArg _ HW.out, by rw [HN.out]; exact HLT.out, by first | (rw [HSTR.out]; done) | (rw [HSTR.out]; exact congrArg _ HWN.out), HT5.out.1, HT5.out.2.1, HSM.out, HST.out.1, HST.out.2.1, HST.out.2.2.1, HST.out.2.2.2.1, HST.out.2.2.2.2.1, HST.out.2.2.2.2.2, HT5.out.2.2⟩, by first | exact measure_less HLT.out | (rw [HW.out]; exact measure_less HLT.out)⟩
          · have q6 : decide (fr ≤ (s1 : Int)) = false := decide_eq_false c6
            have HWN := Lib.hid hwn
            clear hcn h1 h2 hcnt hke hfu hsm c6
            clear hr hrb hcount hused hsame hrm' hoff' hkind hcalb hi64 hisz hLI himg hc1 hT1 hal hLb hlen hkk hqm hqz hq hlt hT hLQ hS hoff hcb hpl hcs hus hrm hob hnl hnn hi hso hfb hs hs1 hsl hisf
            go_wp2_with (first
              | (go_at_call 21; (with_reducible refine HC1.out.mono ?_); rintro ex w2 ⟨A11, cap11, rfl, hi2, hb2⟩; have HI2 := Lib.hid (hi2.z (fun g hg => HT1.out.free g hg)); have hT2 := HT1.out.go hb2; have HOB2 := Lib.hid (HOB1.out.below hb2); have HLQ2 := Lib.hid (HLQ1.out.below hb2); have HFRE := Lib.hid hT2.free; have hpa := hT2.playA HI.out (HLQ2.out.each _ HQM.out); rw [HOPQ.out] at hpa; unfold OpQ.agg at hpa; dsimp only at hpa; rw [HLB.out] at hpa; have HPA := Lib.hid hpa; have HBQ := Lib.hid ((hb2.block wr.heap.size (by simp)).trans (heap_alloc_new wr _)); have HB12 := Lib.hid (Nat.lt_of_lt_of_le (by simp : wr.heap.size < (wr.alloc (.cells #[.int .i64 1, .int .i64 on, .int .i64 nq, .string name, .string dst, .slice Ab Lb cb, .int .i64 p0, .int .i64 p1, .int .i64 p2, .slice Aq np2 cp2] 58)).heap.size) hb2.size); have f0 : w2.cell? ⟨wr.heap.size, 0, none⟩ = some (.int .i64 1) := cell_of_obj HBQ.out 0; have f1 : w2.cell? ⟨wr.heap.size, 1, none⟩ = some (.int .i64 on) := cell_of_obj HBQ.out 1; have f2 : w2.cell? ⟨wr.heap.size, 2, none⟩ = some (.int .i64 nq) := cell_of_obj HBQ.out 2; have f3 : w2.cell? ⟨wr.heap.size, 3, none⟩ = some (.string name) := cell_of_obj HBQ.out 3; have f4 : w2.cell? ⟨wr.heap.size, 4, none⟩ = some (.string dst) := cell_of_obj HBQ.out 4; have f5 : w2.cell? ⟨wr.heap.size, 5, none⟩ = some (.slice Ab Lb cb) := cell_of_obj HBQ.out 5; have f6 : w2.cell? ⟨wr.heap.size, 6, none⟩ = some (.int .i64 p0) := cell_of_obj HBQ.out 6; have f7 : w2.cell? ⟨wr.heap.size, 7, none⟩ = some (.int .i64 p1) := cell_of_obj HBQ.out 7; have f8 : w2.cell? ⟨wr.heap.size, 8, none⟩ = some (.int .i64 p2) := cell_of_obj HBQ.out 8; have f9 : w2.cell? ⟨wr.heap.size, 9, none⟩ = some (.slice Aq np2 cp2) := cell_of_obj HBQ.out 9; clear hi2 hb2 hT2 hpa)
              | (go_at_call 26; (with_reducible refine HPA.out.mono ?_); rintro ex w3 ⟨rfl, ρ3, hT3, K3⟩; have hob := ((K3.2 wr.heap.size HB12.out).2 (by rw [HFREW.out _ (Nat.le_refl _)]; exact r12)).trans HBQ.out; have e0 : w3.cell? ⟨wr.heap.size, 0, none⟩ = some (.int .i64 1) := cell_of_obj hob 0; have e1 : w3.cell? ⟨wr.heap.size, 1, none⟩ = some (.int .i64 on) := cell_of_obj hob 1; have e2 : w3.cell? ⟨wr.heap.size, 2, none⟩ = some (.int .i64 nq) := cell_of_obj hob 2; have e3 : w3.cell? ⟨wr.heap.size, 3, none⟩ = some (.string name) := cell_of_obj hob 3; have e4 : w3.cell? ⟨wr.heap.size, 4, none⟩ = some (.string dst) := cell_of_obj hob 4; have e5 : w3.cell? ⟨wr.heap.size, 5, none⟩ = some (.slice Ab Lb cb) := cell_of_obj hob 5; have e6 : w3.cell? ⟨wr.heap.size, 6, none⟩ = some (.int .i64 p0) := cell_of_obj hob 6; have e7 : w3.cell? ⟨wr.heap.size, 7, none⟩ = some (.int .i64 p1) := cell_of_obj hob 7; have e8 : w3.cell? ⟨wr.heap.size, 8, none⟩ = some (.int .i64 p2) := cell_of_obj hob 8; have e9 : w3.cell? ⟨wr.heap.size, 9, none⟩ = some (.slice Aq np2 cp2) := cell_of_obj hob 9; have HT3 := Lib.hid hT3; have HQ3 := Lib.hid (HLQ2.out.keep K3 r12); have HOB3 := Lib.hid (HOB2.out.keep K3 r12); have HI3 := Lib.hid (HI2.out.keep K3 r12); have hpb := hT3.playB HSZB.out HI.out (HQ3.out.each _ HQM.out); rw [HOPB.out] at hpb; unfold OpQ.agg at hpb; dsimp only at hpb; rw [HLB.out] at hpb; have HPB := Lib.hid hpb; clear hpb; clear hob hT3 K3)
              | (go_at_call 33; (with_reducible refine (counted_any _ _).mono ?_); rintro ex w4 ⟨rfl, rfl⟩)
              | (go_at_call 26; (with_reducible refine HPB.out.mono ?_); rintro ex w5 ⟨rfl, ρ5, hT5, K5⟩; have HT5 := Lib.hid (And.intro hT5 (And.intro (HQ3.out.keep K5 r12) (HOB3.out.keep K5 r12))); clear hT5 K5)
              | fail)
            exact ⟨⟨i + 1, a', b', ρ5, by first | rfl | exact congrArg _ HW.out, by rw [HN.out]; exact HLT.out, by first | (rw [HSTR.out]; done) | (rw [HSTR.out]; exact congrArg _ HWN.out), HT5.out.1, HT5.out.2.1, HSM.out, HST.out.1, HST.out.2.1, HST.out.2.2.1, HST.out.2.2.2.1, HST.out.2.2.2.2.1, HST.out.2.2.2.2.2, HT5.out.2.2⟩, by first | exact measure_less HLT.out | (rw [HW.out]; exact measure_less HLT.out)⟩
      · have hdum := True.intro
        have t1 : (kd == 1) = false := by simpa using k1
        obtain ⟨he1, hsm⟩ := hsame (fun h => absurd h k1)
        subst he1
        have he1 := True.intro
        have z9 : (er != er) = false := by simp
        have HSM := Lib.hid hsm
        rcases hcount with ⟨ha', z8⟩ | ⟨h1, h2, z8⟩
        · have HSTR := Lib.hid (show a'.strokes = s by rw [ha', hs])
          have hcnt : a'.count = a'.strokes := by rw [ha']; exact hcs
          have hwn0 := hwn
          clear hwn hwn0
          have HST := Lib.hid (And.intro hoff' (And.intro hcalb (And.intro (hrm'.2.trans hpl) (And.intro hcnt (And.intro hused (hrm'.1.trans hrm))))))
          clear ha' hcnt he1 k1 hsm hfull
          clear hr hrb hused hsame hrm' hoff' hkind hcalb hi64 hisz hLI himg hc1 hT1 hal hLb hlen hkk hqm hqz hq hlt hT hLQ hS hoff hcb hpl hcs hus hrm hob hnl hnn hi hso hfb hs hs1 hsl hisf
          go_wp2_with (first
            | (go_at_call 21; (with_reducible refine HC1.out.mono ?_); rintro ex w2 ⟨A11, cap11, rfl, hi2, hb2⟩; have HI2 := Lib.hid (hi2.z (fun g hg => HT1.out.free g hg)); have hT2 := HT1.out.go hb2; have HOB2 := Lib.hid (HOB1.out.below hb2); have HLQ2 := Lib.hid (HLQ1.out.below hb2); have HFRE := Lib.hid hT2.free; have hpa := hT2.playA HI.out (HLQ2.out.each _ HQM.out); rw [HOPQ.out] at hpa; unfold OpQ.agg at hpa; dsimp only at hpa; rw [HLB.out] at hpa; have HPA := Lib.hid hpa; have HBQ := Lib.hid ((hb2.block wr.heap.size (by simp)).trans (heap_alloc_new wr _)); have HB12 := Lib.hid (Nat.lt_of_lt_of_le (by simp : wr.heap.size < (wr.alloc (.cells #[.int .i64 kd, .int .i64 on, .int .i64 nq, .string name, .string dst, .slice Ab Lb cb, .int .i64 p0, .int .i64 p1, .int .i64 p2, .slice Aq np2 cp2] 58)).heap.size) hb2.size); have f0 : w2.cell? ⟨wr.heap.size, 0, none⟩ = some (.int .i64 kd) := cell_of_obj HBQ.out 0; have f1 : w2.cell? ⟨wr.heap.size, 1, none⟩ = some (.int .i64 on) := cell_of_obj HBQ.out 1; have f2 : w2.cell? ⟨wr.heap.size, 2, none⟩ = some (.int .i64 nq) := cell_of_obj HBQ.out 2; have f3 : w2.cell? ⟨wr.heap.size, 3, none⟩ = some (.string name) := cell_of_obj HBQ.out 3; have f4 : w2.cell? ⟨wr.heap.size, 4, none⟩ = some (.string dst) := cell_of_obj HBQ.out 4; have f5 : w2.cell? ⟨wr.heap.size, 5, none⟩ = some (.slice Ab Lb cb) := cell_of_obj HBQ.out 5; have f6 : w2.cell? ⟨wr.heap.size, 6, none⟩ = some (.int .i64 p0) := cell_of_obj HBQ.out 6; have f7 : w2.cell? ⟨wr.heap.size, 7, none⟩ = some (.int .i64 p1) := cell_of_obj HBQ.out 7; have f8 : w2.cell? ⟨wr.heap.size, 8, none⟩ = some (.int .i64 p2) := cell_of_obj HBQ.out 8; have f9 : w2.cell? ⟨wr.heap.size, 9, none⟩ = some (.slice Aq np2 cp2) := cell_of_obj HBQ.out 9; clear hi2 hb2 hT2 hpa)
            | (go_at_call 26; (with_reducible refine HPA.out.mono ?_); rintro ex w3 ⟨rfl, ρ3, hT3, K3⟩; have hob := ((K3.2 wr.heap.size HB12.out).2 (by rw [HFREW.out _ (Nat.le_refl _)]; exact r12)).trans HBQ.out; have e0 : w3.cell? ⟨wr.heap.size, 0, none⟩ = some (.int .i64 kd) := cell_of_obj hob 0; have e1 : w3.cell? ⟨wr.heap.size, 1, none⟩ = some (.int .i64 on) := cell_of_obj hob 1; have e2 : w3.cell? ⟨wr.heap.size, 2, none⟩ = some (.int .i64 nq) := cell_of_obj hob 2; have e3 : w3.cell? ⟨wr.heap.size, 3, none⟩ = some (.string name) := cell_of_obj hob 3; have e4 : w3.cell? ⟨wr.heap.size, 4, none⟩ = some (.string dst) := cell_of_obj hob 4; have e5 : w3.cell? ⟨wr.heap.size, 5, none⟩ = some (.slice Ab Lb cb) := cell_of_obj hob 5; have e6 : w3.cell? ⟨wr.heap.size, 6, none⟩ = some (.int .i64 p0) := cell_of_obj hob 6; have e7 : w3.cell? ⟨wr.heap.size, 7, none⟩ = some (.int .i64 p1) := cell_of_obj hob 7; have e8 : w3.cell? ⟨wr.heap.size, 8, none⟩ = some (.int .i64 p2) := cell_of_obj hob 8; have e9 : w3.cell? ⟨wr.heap.size, 9, none⟩ = some (.slice Aq np2 cp2) := cell_of_obj hob 9; have HT3 := Lib.hid hT3; have HQ3 := Lib.hid (HLQ2.out.keep K3 r12); have HOB3 := Lib.hid (HOB2.out.keep K3 r12); have HI3 := Lib.hid (HI2.out.keep K3 r12); have hpb := hT3.playB HSZB.out HI.out (HQ3.out.each _ HQM.out); rw [HOPB.out] at hpb; unfold OpQ.agg at hpb; dsimp only at hpb; rw [HLB.out] at hpb; have HPB := Lib.hid hpb; clear hpb; clear hob hT3 K3)
            | (go_at_call 33; (with_reducible refine (counted_any _ _).mono ?_); rintro ex w4 ⟨rfl, rfl⟩)
            | (go_at_call 26; (with_reducible refine HPB.out.mono ?_); rintro ex w5 ⟨rfl, ρ5, hT5, K5⟩; have HT5 := Lib.hid (And.intro hT5 (And.intro (HQ3.out.keep K5 r12) (HOB3.out.keep K5 r12))); clear hT5 K5)
            | fail)
          exact ⟨⟨i + 1, a', b', ρ5, by first | rfl | exact congrArg _ HW.out, by rw [HN.out]; exact HLT.out, by rw [HSTR.out], HT5.out.1, HT5.out.2.1, HSM.out, HST.out.1, HST.out.2.1, HST.out.2.2.1, HST.out.2.2.2.1, HST.out.2.2.2.2.1, HST.out.2.2.2.2.2, HT5.out.2.2⟩, by first | exact measure_less HLT.out | (rw [HW.out]; exact measure_less HLT.out)⟩
        · have HSTR := Lib.hid h1
          have hcnt : a'.count = a'.strokes := by rw [h1, h2, hcs, hs, hs1]
          have HWN := Lib.hid hwn
          have HST := Lib.hid (And.intro hoff' (And.intro hcalb (And.intro (hrm'.2.trans hpl) (And.intro hcnt (And.intro hused (hrm'.1.trans hrm))))))
          clear h1 h2 hcnt he1 k1 hsm hfull
          clear hr hrb hused hsame hrm' hoff' hkind hcalb hi64 hisz hLI himg hc1 hT1 hal hLb hlen hkk hqm hqz hq hlt hT hLQ hS hoff hcb hpl hcs hus hrm hob hnl hnn hi hso hfb hs hs1 hsl hisf
          go_wp2_with (first
            | (go_at_call 21; (with_reducible refine HC1.out.mono ?_); rintro ex w2 ⟨A11, cap11, rfl, hi2, hb2⟩; have HI2 := Lib.hid (hi2.z (fun g hg => HT1.out.free g hg)); have hT2 := HT1.out.go hb2; have HOB2 := Lib.hid (HOB1.out.below hb2); have HLQ2 := Lib.hid (HLQ1.out.below hb2); have HFRE := Lib.hid hT2.free; have hpa := hT2.playA HI.out (HLQ2.out.each _ HQM.out); rw [HOPQ.out] at hpa; unfold OpQ.agg at hpa; dsimp only at hpa; rw [HLB.out] at hpa; have HPA := Lib.hid hpa; have HBQ := Lib.hid ((hb2.block wr.heap.size (by simp)).trans (heap_alloc_new wr _)); have HB12 := Lib.hid (Nat.lt_of_lt_of_le (by simp : wr.heap.size < (wr.alloc (.cells #[.int .i64 kd, .int .i64 on, .int .i64 nq, .string name, .string dst, .slice Ab Lb cb, .int .i64 p0, .int .i64 p1, .int .i64 p2, .slice Aq np2 cp2] 58)).heap.size) hb2.size); have f0 : w2.cell? ⟨wr.heap.size, 0, none⟩ = some (.int .i64 kd) := cell_of_obj HBQ.out 0; have f1 : w2.cell? ⟨wr.heap.size, 1, none⟩ = some (.int .i64 on) := cell_of_obj HBQ.out 1; have f2 : w2.cell? ⟨wr.heap.size, 2, none⟩ = some (.int .i64 nq) := cell_of_obj HBQ.out 2; have f3 : w2.cell? ⟨wr.heap.size, 3, none⟩ = some (.string name) := cell_of_obj HBQ.out 3; have f4 : w2.cell? ⟨wr.heap.size, 4, none⟩ = some (.string dst) := cell_of_obj HBQ.out 4; have f5 : w2.cell? ⟨wr.heap.size, 5, none⟩ = some (.slice Ab Lb cb) := cell_of_obj HBQ.out 5; have f6 : w2.cell? ⟨wr.heap.size, 6, none⟩ = some (.int .i64 p0) := cell_of_obj HBQ.out 6; have f7 : w2.cell? ⟨wr.heap.size, 7, none⟩ = some (.int .i64 p1) := cell_of_obj HBQ.out 7; have f8 : w2.cell? ⟨wr.heap.size, 8, none⟩ = some (.int .i64 p2) := cell_of_obj HBQ.out 8; have f9 : w2.cell? ⟨wr.heap.size, 9, none⟩ = some (.slice Aq np2 cp2) := cell_of_obj HBQ.out 9; clear hi2 hb2 hT2 hpa)
            | (go_at_call 26; (with_reducible refine HPA.out.mono ?_); rintro ex w3 ⟨rfl, ρ3, hT3, K3⟩; have hob := ((K3.2 wr.heap.size HB12.out).2 (by rw [HFREW.out _ (Nat.le_refl _)]; exact r12)).trans HBQ.out; have e0 : w3.cell? ⟨wr.heap.size, 0, none⟩ = some (.int .i64 kd) := cell_of_obj hob 0; have e1 : w3.cell? ⟨wr.heap.size, 1, none⟩ = some (.int .i64 on) := cell_of_obj hob 1; have e2 : w3.cell? ⟨wr.heap.size, 2, none⟩ = some (.int .i64 nq) := cell_of_obj hob 2; have e3 : w3.cell? ⟨wr.heap.size, 3, none⟩ = some (.string name) := cell_of_obj hob 3; have e4 : w3.cell? ⟨wr.heap.size, 4, none⟩ = some (.string dst) := cell_of_obj hob 4; have e5 : w3.cell? ⟨wr.heap.size, 5, none⟩ = some (.slice Ab Lb cb) := cell_of_obj hob 5; have e6 : w3.cell? ⟨wr.heap.size, 6, none⟩ = some (.int .i64 p0) := cell_of_obj hob 6; have e7 : w3.cell? ⟨wr.heap.size, 7, none⟩ = some (.int .i64 p1) := cell_of_obj hob 7; have e8 : w3.cell? ⟨wr.heap.size, 8, none⟩ = some (.int .i64 p2) := cell_of_obj hob 8; have e9 : w3.cell? ⟨wr.heap.size, 9, none⟩ = some (.slice Aq np2 cp2) := cell_of_obj hob 9; have HT3 := Lib.hid hT3; have HQ3 := Lib.hid (HLQ2.out.keep K3 r12); have HOB3 := Lib.hid (HOB2.out.keep K3 r12); have HI3 := Lib.hid (HI2.out.keep K3 r12); have hpb := hT3.playB HSZB.out HI.out (HQ3.out.each _ HQM.out); rw [HOPB.out] at hpb; unfold OpQ.agg at hpb; dsimp only at hpb; rw [HLB.out] at hpb; have HPB := Lib.hid hpb; clear hpb; clear hob hT3 K3)
            | (go_at_call 33; (with_reducible refine (counted_any _ _).mono ?_); rintro ex w4 ⟨rfl, rfl⟩)
            | (go_at_call 26; (with_reducible refine HPB.out.mono ?_); rintro ex w5 ⟨rfl, ρ5, hT5, K5⟩; have HT5 := Lib.hid (And.intro hT5 (And.intro (HQ3.out.keep K5 r12) (HOB3.out.keep K5 r12))); clear hT5 K5)
            | fail)
          exact ⟨⟨i + 1, a', b', ρ5, by first | rfl | exact congrArg _ HW.out, by rw [HN.out]; exact HLT.out, by first | (rw [HSTR.out]; done) | (rw [HSTR.out]; exact congrArg _ HWN.out), HT5.out.1, HT5.out.2.1, HSM.out, HST.out.1, HST.out.2.1, HST.out.2.2.1, HST.out.2.2.2.1, HST.out.2.2.2.2.1, HST.out.2.2.2.2.2, HT5.out.2.2⟩, by first | exact measure_less HLT.out | (rw [HW.out]; exact measure_less HLT.out)⟩
      -- MARKB
      -- MARKC
    · have hdum := True.intro
      have q1 : decide (i < N) = false := decide_eq_false hlt
      have HTE := Lib.hid hT
      have hse := hS.seenL
      have hcr := hS.crash ps
      obtain ⟨im, him⟩ : ∃ im, a.seenL = im := ⟨_, rfl⟩
      obtain ⟨ci, hci⟩ : ∃ ci, a.crash ps = ci := ⟨_, rfl⟩
      obtain ⟨LS, hLS⟩ : ∃ LS, im.length = LS := ⟨_, rfl⟩
      obtain ⟨LC, hLC⟩ : ∃ LC, ci.length = LC := ⟨_, rfl⟩
      have HS64 := Lib.hid (show LS ≤ 64 by have := seenL_len hT.oka; rw [him, hLS] at this; exact this)
      have HC64 := Lib.hid (show LC ≤ 64 by have := crash_len hT.oka ps; rw [hci, hLC] at this; exact this)
      have HSSZ : Hid (∀ x ∈ im, x.2.length ≤ 1000000000000) := Lib.hid (fun x hx => by rw [← him] at hx; have := seenL_le hT.oka hx; omega)
      have HCSZ : Hid (∀ x ∈ ci, x.2.length ≤ 1000000000000) := Lib.hid (fun x hx => by rw [← hci] at hx; have h1 := crash_le hx; have h2 := hT.sza.tot; omega)
      rw [him] at hse
      rw [hci] at hcr
      have HIM := Lib.hid (And.intro him (And.intro hse.symm (And.intro hci (And.intro hcr.symm (And.intro hLS hLC)))))
      have HI := Lib.hid (show i ≤ 1001 by omega)
      have c2 : wr.cell? ⟨W.heap.size, 2, none⟩ = some (.slice Ap np cp) := by
        have h0 := hob.1
        rw [← HBX.out] at h0
        exact cell_of_obj h0 2
      have hs1 := seen_of (hT.go ((Below.refl wr.heap.size wr).drew)).da hT.oka
      unfold SeenEnd at hs1
      rw [him, hLS] at hs1
      have HS1 := Lib.hid hs1
      clear hT hLQ hS hoff hcb hpl hcs hus hrm hob hnl hnn hlt hi hse hcr him hci hLS hLC hs1
      go_wp2_with fail
      refine wp_region_held_drew (S := fun w' => w'.cell? ⟨W.heap.size, 2, none⟩ = some (.slice Ap np cp)) (by kernel_rfl) c2 (fun hHeld => ?_)
      refine wpAnyH_take (i := 0) (v := ?_) rfl (by kernel_rfl) (by kernel_rfl) (by kernel_rfl) (fun _ _ _ h => h) (Or.inl ⟨by rfl, fun w hSw => ?_⟩) hHeld ?_
      rotate_left
      · (try dsimp only at hSw); go_split_ands; go_simp <;> with_reducible rfl
      (try simp only [Act.put, List.getElem_toArray, List.getElem_cons_zero, List.setIfInBounds_toArray, List.set_cons_zero, List.set_cons_succ])
      refine wpAnyH_take (i := 2) (v := ?_) rfl (by kernel_rfl) (by kernel_rfl) (by kernel_rfl) (fun _ _ _ h => h) (Or.inl ⟨by rfl, fun w hSw => ?_⟩) hHeld ?_
      rotate_left
      · (try dsimp only at hSw); go_split_ands; go_simp <;> with_reducible rfl
      (try simp only [Act.put, List.getElem_toArray, List.getElem_cons_succ, List.getElem_cons_zero, List.setIfInBounds_toArray, List.set_cons_zero, List.set_cons_succ])
      refine wpAnyH_ready (rs := [1]) (by kernel_rfl) (by simp) (AllReadyH.cons rfl (fun K hK => ?_) AllReadyH.nil)
      go_simp
      (with_reducible refine HS1.out.mono ?_)
      rintro ex w1 ⟨A1', cap1, rfl, hi1, hb1⟩
      have hb01 : Below wr.heap.size wr w1 := ((Below.refl _ _).drew).trans hb1
      have hT1 := HTE.out.go hb01
      have hs2 := seen_of hT1.db hT1.okb
      unfold SeenEnd at hs2
      rw [HIM.out.2.1, HIM.out.2.2.2.2.1] at hs2
      have HS2 := Lib.hid hs2
      have HI1 := Lib.hid hi1
      have HT1 := Lib.hid hT1
      have c2 := cellKeep hb01 c2
      refine hK.out _ _ c2 (fun hHeld => ?_)
      clear hK K hi1 hb1 hb01 hT1 hs2
      (try simp only [Act.put, List.getElem_toArray, List.getElem_cons_succ, List.getElem_cons_zero, List.setIfInBounds_toArray, List.set_cons_zero, List.set_cons_succ])
      refine wpAnyH_ready (rs := [3]) (by kernel_rfl) (by simp) (AllReadyH.cons rfl (fun K hK => ?_) AllReadyH.nil)
      go_simp
      (with_reducible refine HS2.out.mono ?_)
      rintro ex w2 ⟨A2', cap2, rfl, hi2, hb2⟩
      have hima := image_any w2 A1' A2' im im LS LS cap1 cap2 HIM.out.2.2.2.2.1 HIM.out.2.2.2.2.1 ((HI1.out.below hb2).rdI) hi2.rdI (by have := HS64.out; omega) HSSZ.out
      rw [decide_eq_true rfl] at hima
      have HIMA := Lib.hid hima
      have HT2 := Lib.hid (HT1.out.go hb2)
      have c2 := cellKeep hb2 c2
      refine hK.out _ _ c2 (fun hHeld => ?_)
      clear hK K hi2 hb2 hima
      (try simp only [Act.put, List.getElem_toArray, List.getElem_cons_succ, List.getElem_cons_zero, List.setIfInBounds_toArray, List.set_cons_zero, List.set_cons_succ])
      refine wpAnyH_ready (rs := [4]) (by kernel_rfl) (by simp) (AllReadyH.cons rfl (fun K hK => ?_) AllReadyH.nil)
      go_simp
      (with_reducible refine HIMA.out.mono ?_)
      rintro ex w3 ⟨rfl, m3, rfl⟩
      have hT3 := HT2.out.go (below_drewN w2 m3)
      have hc4 := crash_of hT3.da hT3.oka hT3.sza HI.out HPS.out.1 HPS.out.2.1 (HPS.out.2.2.below hT3.below)
      unfold CrashEnd at hc4
      rw [HIM.out.2.2.1, HIM.out.2.2.2.2.2] at hc4
      have HC4 := Lib.hid hc4
      have HT3 := Lib.hid hT3
      refine hK.out _ _ c2 (fun hHeld => ?_)
      clear hK K hc4 hT3
      (try simp only [Act.put, List.getElem_toArray, List.getElem_cons_succ, List.getElem_cons_zero, List.setIfInBounds_toArray, List.set_cons_zero, List.set_cons_succ])
      refine wpAnyH_take (i := 5) (v := ?_) rfl (by kernel_rfl) (by kernel_rfl) (by kernel_rfl) (fun _ _ _ h => h) (Or.inl ⟨by rfl, fun w hSw => ?_⟩) hHeld ?_
      rotate_left
      · (try dsimp only at hSw); go_split_ands; go_simp <;> with_reducible rfl
      (try simp only [Act.put, List.getElem_toArray, List.getElem_cons_succ, List.getElem_cons_zero, List.setIfInBounds_toArray, List.set_cons_zero, List.set_cons_succ])
      refine wpAnyH_take (i := 6) (v := ?_) rfl (by kernel_rfl) (by kernel_rfl) (by kernel_rfl) (fun _ _ _ h => h) (Or.inl ⟨by rfl, fun w hSw => ?_⟩) hHeld ?_
      rotate_left
      · (try dsimp only at hSw); go_split_ands; go_simp <;> with_reducible rfl
      (try simp only [Act.put, List.getElem_toArray, List.getElem_cons_succ, List.getElem_cons_zero, List.setIfInBounds_toArray, List.set_cons_zero, List.set_cons_succ])
      refine wpAnyH_take (i := 7) (v := ?_) rfl (by kernel_rfl) (by kernel_rfl) (by kernel_rfl) (fun _ _ _ h => h) (Or.inl ⟨by rfl, fun w hSw => ?_⟩) hHeld ?_
      rotate_left
      · (try dsimp only at hSw); go_split_ands; go_simp <;> with_reducible rfl
      (try simp only [Act.put, List.getElem_toArray, List.getElem_cons_succ, List.getElem_cons_zero, List.setIfInBounds_toArray, List.set_cons_zero, List.set_cons_succ])
      refine wpAnyH_take (i := 8) (v := ?_) rfl (by kernel_rfl) (by kernel_rfl) (by kernel_rfl) (fun _ _ _ h => h) (Or.inl ⟨by rfl, fun w hSw => ?_⟩) hHeld ?_
      rotate_left
      · (try dsimp only at hSw); go_split_ands; go_simp <;> with_reducible rfl
      (try simp only [Act.put, List.getElem_toArray, List.getElem_cons_succ, List.getElem_cons_zero, List.setIfInBounds_toArray, List.set_cons_zero, List.set_cons_succ])
      refine wpAnyH_take (i := 10) (v := ?_) rfl (by kernel_rfl) (by kernel_rfl) (by kernel_rfl) (fun _ _ _ h => h) (Or.inl ⟨by rfl, fun w hSw => ?_⟩) hHeld ?_
      rotate_left
      · (try dsimp only at hSw); go_split_ands; go_simp <;> with_reducible rfl
      (try simp only [Act.put, List.getElem_toArray, List.getElem_cons_succ, List.getElem_cons_zero, List.setIfInBounds_toArray, List.set_cons_zero, List.set_cons_succ])
      refine wpAnyH_take (i := 11) (v := ?_) rfl (by kernel_rfl) (by kernel_rfl) (by kernel_rfl) (fun _ _ _ h => h) (Or.inl ⟨by rfl, fun w hSw => ?_⟩) hHeld ?_
      rotate_left
      · (try dsimp only at hSw); go_split_ands; go_simp <;> with_reducible rfl
      (try simp only [Act.put, List.getElem_toArray, List.getElem_cons_succ, List.getElem_cons_zero, List.setIfInBounds_toArray, List.set_cons_zero, List.set_cons_succ])
      refine wpAnyH_take (i := 12) (v := ?_) rfl (by kernel_rfl) (by kernel_rfl) (by kernel_rfl) (fun _ _ _ h => h) (Or.inl ⟨by rfl, fun w hSw => ?_⟩) hHeld ?_
      rotate_left
      · (try dsimp only at hSw); go_split_ands; go_simp <;> with_reducible rfl
      (try simp only [Act.put, List.getElem_toArray, List.getElem_cons_succ, List.getElem_cons_zero, List.setIfInBounds_toArray, List.set_cons_zero, List.set_cons_succ])
      refine wpAnyH_ready (rs := [9]) (by kernel_rfl) (by simp) (AllReadyH.cons rfl (fun K hK => ?_) AllReadyH.nil)
      go_simp
      (with_reducible refine HC4.out.mono ?_)
      rintro ex w4 ⟨A4', cap4, rfl, hi4, hb4⟩
      have hT4 := HT3.out.go hb4
      have hc5 := crash_of hT4.db hT4.okb hT4.szb HI.out HPS.out.1 HPS.out.2.1 (HPS.out.2.2.below hT4.below)
      unfold CrashEnd at hc5
      rw [HIM.out.2.2.2.1, HIM.out.2.2.2.2.2] at hc5
      have HC5 := Lib.hid hc5
      have HI4 := Lib.hid hi4
      have HT4 := Lib.hid hT4
      have c2 := cellKeep (W := w2.drewN m3) hb4 c2
      refine hK.out _ _ c2 (fun hHeld => ?_)
      clear hK K hi4 hb4 hT4 hc5
      (try simp only [Act.put, List.getElem_toArray, List.getElem_cons_succ, List.getElem_cons_zero, List.setIfInBounds_toArray, List.set_cons_zero, List.set_cons_succ])
      refine wpAnyH_ready (rs := [13]) (by kernel_rfl) (by simp) (AllReadyH.cons rfl (fun K hK => ?_) AllReadyH.nil)
      go_simp
      (with_reducible refine HC5.out.mono ?_)
      rintro ex w5' ⟨A5', cap5', rfl, hi5, hb5⟩
      have hima := image_any w5' A4' A5' ci ci LC LC cap4 cap5' HIM.out.2.2.2.2.2 HIM.out.2.2.2.2.2 ((HI4.out.below hb5).rdI) hi5.rdI (by have := HC64.out; omega) HCSZ.out
      rw [decide_eq_true rfl] at hima
      have HIMB := Lib.hid hima
      have HT5 := Lib.hid (HT4.out.go hb5)
      have c2 := cellKeep hb5 c2
      refine hK.out _ _ c2 (fun hHeld => ?_)
      clear hK K hi5 hb5 hima
      (try simp only [Act.put, List.getElem_toArray, List.getElem_cons_succ, List.getElem_cons_zero, List.setIfInBounds_toArray, List.set_cons_zero, List.set_cons_succ])
      refine wpAnyH_ready (rs := [14]) (by kernel_rfl) (by simp) (AllReadyH.cons rfl (fun K hK => ?_) AllReadyH.nil)
      go_simp
      (with_reducible refine HIMB.out.mono ?_)
      rintro ex w6 ⟨rfl, m6, rfl⟩
      have hT6 := HT5.out.go (below_drewN w5' m6)
      have HST6 := Lib.hid (strokes_of hT6.da)
      have HT6 := Lib.hid hT6
      refine hK.out _ _ c2 (fun hHeld => ?_)
      clear hK K hT6
      (try simp only [Act.put, List.getElem_toArray, List.getElem_cons_succ, List.getElem_cons_zero, List.setIfInBounds_toArray, List.set_cons_zero, List.set_cons_succ])
      refine wpAnyH_take (i := 15) (v := ?_) rfl (by kernel_rfl) (by kernel_rfl) (by kernel_rfl) (fun _ _ _ h => h) (Or.inl ⟨by rfl, fun w hSw => ?_⟩) hHeld ?_
      rotate_left
      · (try dsimp only at hSw); go_split_ands; go_simp <;> with_reducible rfl
      (try simp only [Act.put, List.getElem_toArray, List.getElem_cons_succ, List.getElem_cons_zero, List.setIfInBounds_toArray, List.set_cons_zero, List.set_cons_succ])
      refine wpAnyH_take (i := 16) (v := ?_) rfl (by kernel_rfl) (by kernel_rfl) (by kernel_rfl) (fun _ _ _ h => h) (Or.inl ⟨by rfl, fun w hSw => ?_⟩) hHeld ?_
      rotate_left
      · (try dsimp only at hSw); go_split_ands; go_simp <;> with_reducible rfl
      (try simp only [Act.put, List.getElem_toArray, List.getElem_cons_succ, List.getElem_cons_zero, List.setIfInBounds_toArray, List.set_cons_zero, List.set_cons_succ])
      refine wpAnyH_take (i := 17) (v := ?_) rfl (by kernel_rfl) (by kernel_rfl) (by kernel_rfl) (fun _ _ _ h => h) (Or.inl ⟨by rfl, fun w hSw => ?_⟩) hHeld ?_
      rotate_left
      · (try dsimp only at hSw); go_split_ands; go_simp <;> with_reducible rfl
      (try simp only [Act.put, List.getElem_toArray, List.getElem_cons_succ, List.getElem_cons_zero, List.setIfInBounds_toArray, List.set_cons_zero, List.set_cons_succ])
      refine wpAnyH_take (i := 19) (v := ?_) rfl (by kernel_rfl) (by kernel_rfl) (by kernel_rfl) (fun _ _ _ h => h) (Or.inl ⟨by rfl, fun w hSw => ?_⟩) hHeld ?_
      rotate_left
      · (try dsimp only at hSw); go_split_ands; go_simp <;> with_reducible rfl
      (try simp only [Act.put, List.getElem_toArray, List.getElem_cons_succ, List.getElem_cons_zero, List.setIfInBounds_toArray, List.set_cons_zero, List.set_cons_succ])
      refine wpAnyH_ready (rs := [18]) (by kernel_rfl) (by simp) (AllReadyH.cons rfl (fun K hK => ?_) AllReadyH.nil)
      go_simp
      (with_reducible refine HST6.out.mono ?_)
      rintro ex w7' ⟨rfl, rfl⟩
      refine hK.out _ _ c2 (fun hHeld => ?_)
      clear hK K
      (try simp only [Act.put, List.getElem_toArray, List.getElem_cons_succ, List.getElem_cons_zero, List.setIfInBounds_toArray, List.set_cons_zero, List.set_cons_succ])
      refine wpAnyH_take (i := 20) (v := ?_) rfl (by kernel_rfl) (by kernel_rfl) (by kernel_rfl) (fun _ _ _ h => h) (Or.inl ⟨by rfl, fun w hSw => ?_⟩) hHeld ?_
      rotate_left
      · (try dsimp only at hSw); go_split_ands; go_simp <;> with_reducible rfl
      (try simp only [Act.put, List.getElem_toArray, List.getElem_cons_succ, List.getElem_cons_zero, List.setIfInBounds_toArray, List.set_cons_zero, List.set_cons_succ])
      refine wpAnyH_take (i := 21) (v := ?_) rfl (by kernel_rfl) (by kernel_rfl) (by kernel_rfl) (fun _ _ _ h => h) (Or.inl ⟨by rfl, fun w hSw => ?_⟩) hHeld ?_
      rotate_left
      · (try dsimp only at hSw); go_split_ands; go_simp <;> with_reducible rfl
      (try simp only [Act.put, List.getElem_toArray, List.getElem_cons_succ, List.getElem_cons_zero, List.setIfInBounds_toArray, List.set_cons_zero, List.set_cons_succ])
      refine wpAnyH_take (i := 22) (v := ?_) rfl (by kernel_rfl) (by kernel_rfl) (by kernel_rfl) (fun _ _ _ h => h) (Or.inl ⟨by rfl, fun w hSw => ?_⟩) hHeld ?_
      rotate_left
      · (try dsimp only at hSw); go_split_ands; go_simp <;> with_reducible rfl
      (try simp only [Act.put, List.getElem_toArray, List.getElem_cons_succ, List.getElem_cons_zero, List.setIfInBounds_toArray, List.set_cons_zero, List.set_cons_succ])
      refine wpAnyH_done (by kernel_rfl) ?_ _
      go_wp2
      go_ret
      exact ⟨by first | rfl | simp, HT6.out.below⟩
      -- MARKD
end Go.Proofs.Ytgkpobajafjdeaa
