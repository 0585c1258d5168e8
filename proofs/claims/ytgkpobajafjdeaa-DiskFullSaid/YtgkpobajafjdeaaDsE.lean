/- DiskSafe: the walk. -/
import Derived.Test.YtgkpobajafjdeaaDsD
namespace Go.Proofs.Ytgkpobajafjdeaa
open Go.RowKit Go.Maps

def powerC (A0 : Option Addr) (n0 c0 : Nat) (off : Int) (Ap : Option Addr) (np cp : Nat) (A1 : Option Addr) (n1 c1 : Nat) (An : Option Addr) (nn cn : Nat) : Array Value := #[.slice A0 n0 c0, .int .i64 off, .slice Ap np cp, .slice A1 n1 c1, .slice An nn cn]
def SafeR1 (W : World) (D : Nat) (qs : List OpQ) (A : Option Addr) (cap : Nat) (bx : Obj) (iv : Value) (wr : World) : Prop := ∃ (k : Nat) (d : DM) (ρ : Nat → Nat), iv = .int .i64 k ∧ k ≤ qs.length ∧ LoopAt W D qs A cap d k ρ wr ∧ d.Calm ∧ d.room = 67108864 ∧ BoxAt wr ρ W.heap.size bx
def SafeR2 (W : World) (D : Nat) (qs : List OpQ) (A : Option Addr) (cap : Nat) (bx : Obj) (s : DM) (b6 : Nat) (wv : Value) (iv : Value) (wr : World) : Prop := ∃ (j m : Nat) (d : DM) (ρ : Nat → Nat), iv = .int .i64 j ∧ j ≤ qs.length ∧ m ≤ 300 + j ∧ LoopAt W D qs A cap d m ρ wr ∧ d.Calm ∧ Since s d ∧ ImgZ wr b6 ρ wv s.seenL ∧ BoxAt wr ρ W.heap.size bx
/-- There is a file behind the append of 'safe'. -/
theorem safe_names {d : DM} (hc : d.Calm) (hr : d.room = 67108864) : (d.append [115, 97, 102, 101] [98, 121, 116, 101, 115]).1.names ≠ [] := by
  by_cases hn : d.names = []
  · have hg : d.names.get [115, 97, 102, 101] = none := by rw [hn]; rfl
    have he : d.err [115, 97, 102, 101] = 42 := by
      unfold DM.err
      rw [hc.off, hg]
      rfl
    have hu : d.stroke.used = 0 := by show (d.names.map _).sum = 0; rw [hn]; rfl
    have hno : d.stroke.no 5 = false := by
      unfold DM.no
      rw [stroke_full hc, hu]
      have : d.stroke.room = 67108864 := hr
      rw [this]
      rfl
    have hl5 : ([98, 121, 116, 101, 115] : BS).length = 5 := rfl
    have e : (d.append [115, 97, 102, 101] [98, 121, 116, 101, 115]).1 = (d.stroke.make [115, 97, 102, 101]).addTo d.files.length [98, 121, 116, 101, 115] := by
      unfold DM.append
      rw [if_neg (by rw [he]; decide), if_neg (by rw [he]; decide), hl5]
      simp only [hg, hno]
      rw [if_neg (by rw [hn]; simp)]
      rfl
    rw [e]
    intro h0
    have hm : (([115, 97, 102, 101] : BS), d.files.length) ∈ NM.put d.names [115, 97, 102, 101] d.files.length := NM.mem_put.2 (.inl rfl)
    have h0' : NM.put d.names [115, 97, 102, 101] d.files.length = [] := h0
    rw [h0'] at hm
    cases hm
  · rcases append_ways d [115, 97, 102, 101] [98, 121, 116, 101, 115] with e | e | ⟨f, _, _, e⟩ | ⟨_, hg, _, _, _, e⟩
    · rw [e]; exact hn
    · rw [e]; exact hn
    · rw [e]; exact hn
    · rw [e]
      intro h0
      have hm : (([115, 97, 102, 101] : BS), d.files.length) ∈ NM.put d.names [115, 97, 102, 101] d.files.length := NM.mem_put.2 (.inl rfl)
      have h0' : NM.put d.names [115, 97, 102, 101] d.files.length = [] := h0
      rw [h0'] at hm
      cases hm
set_option maxRecDepth 100000 in
set_option maxHeartbeats 8000000 in
theorem safe_walk (W : World) (A0 : Option Addr) (n0 c0 : Nat) (off : Int) (Ap : Option Addr) (np cp : Nat) (A1 : Option Addr) (n1 c1 : Nat) (An : Option Addr) (nn cn : Nat) (l : List OpQ) (hn : l.length = n0) (hA : OpsIn W A0 l) (hq : ∀ q ∈ l, q.At W W.heap.size) (l1 : List OpQ) (hn1 : l1.length = n1) (hA1 : OpsIn W A1 l1) (hq1 : ∀ q ∈ l1, q.At W W.heap.size) (ps : List Int) (hps : ps.length = np) (hcp : np ≤ cp) (hP : PicksIn W Ap ps) :
    Calls Try.prog 5 #[.agg (powerC A0 n0 c0 off Ap np cp A1 n1 c1 An nn cn)] W fun e W' => e = .returned (.bool true) ∧ Below W.heap.size W W' := by
  have hwb : Below W.heap.size W (W.alloc (.cells (powerC A0 n0 c0 off Ap np cp A1 n1 c1 An nn cn) 65)) := (Below.refl _ _).alloc (Nat.le_refl _) _
  have hopen := open_any (W.alloc (.cells (powerC A0 n0 c0 off Ap np cp A1 n1 c1 An nn cn) 65)) W.heap.size 1 (fun _ => 0) (fun _ _ => rfl) hwb.size
  have hbx0 := heap_alloc_new W (.cells (powerC A0 n0 c0 off Ap np cp A1 n1 c1 An nn cn) 65)
  obtain ⟨bx, hbx⟩ : ∃ bx, Obj.cells (powerC A0 n0 c0 off Ap np cp A1 n1 c1 An nn cn) 65 (0, 0) = bx := ⟨_, rfl⟩
  have hqf : ∀ q ∈ fewQ l, q.At W W.heap.size ∧ q.b.length ≤ 4096 := fun q h => ⟨fewQ_at hq q h, (fewQ_bytes h).1⟩
  have hqf1 : ∀ q ∈ fewQ l1, q.At W W.heap.size ∧ q.b.length ≤ 4096 := fun q h => ⟨fewQ_at hq1 q h, (fewQ_bytes h).1⟩
  have hfew : ∀ w, Below W.heap.size W w → Calls Try.prog 24 #[.slice A0 n0 c0] w (FewEnd l w) := fun w hb => few_any w A0 n0 c0 l hn (hA.below hb) (fun q h => (hq q h).cap)
  have hfew1 : ∀ w, Below W.heap.size W w → Calls Try.prog 24 #[.slice A1 n1 c1] w (FewEnd l1 w) := fun w hb => few_any w A1 n1 c1 l1 hn1 (hA1.below hb) (fun q h => (hq1 q h).cap)
  have hfl := fewQ_len l
  have hfl1 := fewQ_len l1
  have HOPEN := Lib.hid hopen
  have HWB := Lib.hid hwb
  have HBX0 := Lib.hid hbx0
  have HQF := Lib.hid hqf
  have HQF1 := Lib.hid hqf1
  have HFEW := Lib.hid hfew
  have HFEW1 := Lib.hid hfew1
  have HFL := Lib.hid hfl
  have HFL1 := Lib.hid hfl1
  have HPS := Lib.hid (And.intro hps (And.intro hcp hP))
  have HBX := Lib.hid hbx
  unfold powerC at HOPEN HWB HBX0 ⊢
  clear hwb hopen hbx0 hqf hqf1 hfew hfew1 hfl hfl1 hps hcp hP hn hA hq hn1 hA1 hq1
  go_enter Try.func5, Try.ntmps5
  go_wp2_with (first
    | (go_at_call 29; (with_reducible refine HOPEN.out.mono ?_); rintro e w1 ⟨D, rfl, he1⟩; have HE1 := Lib.hid he1; have hob : w1.heap[W.heap.size]? = some (.cells (powerC A0 n0 c0 off Ap np cp A1 n1 c1 An nn cn) 65 (0, 0)) := (by obtain ⟨ρ', _, K, _⟩ := he1; exact ((K.2 W.heap.size (by simp)).2 ro13).trans HBX0.out); have d0 : w1.cell? ⟨W.heap.size, 0, none⟩ = some (.slice A0 n0 c0) := cell_of_obj hob 0; have hbW := HWB.out.trans (by obtain ⟨_, _, _, _, B⟩ := he1; exact B); have HBW := Lib.hid hbW; clear he1 hob hbW)
    | (go_at_call 24; (with_reducible refine (HFEW.out _ HBW.out).mono ?_); rintro e w2 ⟨A2, cap2, rfl, hf2, hb2⟩; have HF2 := Lib.hid (And.intro hf2 hb2); clear hf2 hb2)
    | fail)
  obtain ⟨qs, hqs⟩ : ∃ qs, fewQ l = qs := ⟨_, rfl⟩
  have hL0 := LoopAt.open_ (qs := fewQ l) HWB.out (fun _ => rfl) HE1.out HF2.out.1 HF2.out.2 HBX0.out
  rw [hqs] at hL0 HQF HFL ⊢
  have hbx2 : Obj.cells #[.slice A0 n0 c0, .int .i64 off, .slice Ap np cp, .slice A1 n1 c1, .slice An nn cn] 65 (0, 0) = bx := hbx
  rw [hbx2] at hL0
  have HL0 := Lib.hid hL0
  obtain ⟨N, hN⟩ : ∃ N, qs.length = N := ⟨_, rfl⟩
  rw [hN]
  have HN := Lib.hid hN
  clear hL0 hN hqs d0 HF2 HE1 HFEW HBW HOPEN hbx hbx2
  go_loopw [5] (fun iv wr => SafeR1 W D qs A2 cap2 bx iv wr) (fun iv _ => (N - intOf iv).toNat)
  case atStart =>
    obtain ⟨ρ, h, hb⟩ := HL0.out
    exact ⟨0, _, ρ, rfl, Nat.zero_le _, h, Calm.new _, rfl, hb⟩
  case round =>
    obtain ⟨k, d, ρ, rfl, hk, hl, hcalm, hroom, hbxr⟩ := hrel
    rw [HN.out] at hk
    have hfl := HFL.out
    have hnn := HN.out
    by_cases hlt : k < N
    · have q1 : (k : Int) < (N : Int) := by omega
      obtain ⟨q, hq⟩ : ∃ q, qs[k]? = some q := ⟨qs[k]'(by omega), List.getElem?_eq_getElem _⟩
      obtain ⟨gq, rfl, d0, d1, d2, d3, d4, d5, d6, d7, d8, d9⟩ := hl.at_ hq
      have hplay := hl.op HQF.out hq (by omega)
      have hcal := op_calm hcalm q.toM
      have hrm := (op_room d q.toM).1.trans hroom
      obtain ⟨r, hr⟩ : ∃ r, d.op q.toM = r := ⟨_, rfl⟩
      rw [hr] at hplay hcal hrm
      obtain ⟨d', f⟩ := r
      obtain ⟨kd, on, nq, name, dst, Ab, cb, b, p0, p1, p2, Aq, np2, cp2⟩ := q
      unfold OpQ.agg at hplay
      dsimp only at d0 d1 d2 d3 d4 d5 d6 d7 d8 d9 hplay hcal
      obtain ⟨Lb, hLb⟩ : ∃ Lb, b.length = Lb := ⟨_, rfl⟩
      rw [hLb] at d5 hplay
      have HPL := Lib.hid hplay
      have HC := Lib.hid (And.intro hcal (And.intro hbxr hrm))
      have HW := Lib.hid (w64s (k := k) (by omega))
      have HLT := Lib.hid hlt
      clear hq hplay hcal hrm hr hLb hl hcalm hroom hbxr hk hfl hnn hlt
      go_wp2_with (first
        | (go_at_call 26; (with_reducible refine HPL.out.mono ?_); rintro e w5 ⟨rfl, ρ5, hl5, K5⟩; have HL5 := Lib.hid (And.intro hl5 (HC.out.2.1.keep K5 ro1)); clear hl5 K5)
        | fail)
      exact ⟨⟨k + 1, d', ρ5, by first | rfl | exact congrArg _ HW.out, by rw [HN.out]; exact HLT.out, HL5.out.1, HC.out.1, HC.out.2.2, HL5.out.2⟩, by first | exact measure_less HLT.out | (rw [HW.out]; exact measure_less HLT.out)⟩
    · have q1 : decide (k < N) = false := decide_eq_false hlt
      have HL := Lib.hid (And.intro hl (And.intro hcalm (And.intro hbxr hroom)))
      have HK := Lib.hid (show k ≤ 200 by omega)
      clear hl hcalm hroom hbxr hk hfl hnn hlt
      have hcv := Lib.run_convert_bytes_const (P := Try.prog) wr 26 5 #[.int .u8 98, .int .u8 121, .int .u8 116, .int .u8 101, .int .u8 115] 5 5 Try.underlying26 Try.underlying5
      simp only [List.size_toArray, List.length_cons, List.length_nil, Nat.zero_add, Nat.reduceAdd] at hcv
      have hal : Below wr.heap.size wr (wr.alloc (.cells #[.int .u8 98, .int .u8 121, .int .u8 116, .int .u8 101, .int .u8 115] 5 (5, 6))) := (Below.refl _ _).alloc (Nat.le_refl _) _
      have hl3 := HL.out.1.go hal
      have hown := hl3.own (by have := HK.out; omega) ⟨1, 0, 0, ⟨#[115, 97, 102, 101]⟩, ⟨#[]⟩, some ⟨wr.heap.size, 0, none⟩, 5, [98, 121, 116, 101, 115], 0, 0, 0, none, 0, 0⟩ (g := wr.heap.size) rfl (by simp) (HL.out.1.free _ (Nat.le_refl _)) (fun k hk => by
        rw [World.cell?_alloc_mark]
        rcases (by have : k < 5 := hk; omega : k = 0 ∨ k = 1 ∨ k = 2 ∨ k = 3 ∨ k = 4) with rfl | rfl | rfl | rfl | rfl <;> rfl) (show (⟨#[115, 97, 102, 101]⟩ : ByteArray).size ≤ maxLen by decide) (show (⟨#[]⟩ : ByteArray).size ≤ maxLen by decide) (show ([98, 121, 116, 101, 115] : BS).length ≤ 4096 by decide)
      have hcal := op_calm HL.out.2.1 (OpQ.toM ⟨1, 0, 0, ⟨#[115, 97, 102, 101]⟩, ⟨#[]⟩, some ⟨wr.heap.size, 0, none⟩, 5, [98, 121, 116, 101, 115], 0, 0, 0, none, 0, 0⟩)
      obtain ⟨r, hr⟩ : ∃ r, d.op (OpQ.toM ⟨1, 0, 0, ⟨#[115, 97, 102, 101]⟩, ⟨#[]⟩, some ⟨wr.heap.size, 0, none⟩, 5, [98, 121, 116, 101, 115], 0, 0, 0, none, 0, 0⟩) = r := ⟨_, rfl⟩
      have hr1 : d.append [115, 97, 102, 101] [98, 121, 116, 101, 115] = r := hr
      rw [hr] at hown hcal
      obtain ⟨d4, f4⟩ := r
      unfold OpQ.agg at hown
      dsimp only at hown hcal
      have h5 : ([98, 121, 116, 101, 115] : BS).length = 5 := rfl
      rw [h5] at hown
      have HOWN := Lib.hid hown
      have HC4 := Lib.hid hcal
      have HB3 := Lib.hid (HL.out.2.2.1.below hal)
      have HAP := Lib.hid hr1
      clear hl3 hown hcal hr hr1 hal h5
      go_wp2_with (first
        | (go_at_call 26; (with_reducible refine HOWN.out.mono ?_); rintro e w4 ⟨rfl, ρ4, hl4, K4⟩; have HSF := Lib.hid (hl4.safe HC4.out (by have := HK.out; omega)); have HB4 := Lib.hid (And.intro (HB3.out.keep K4 ro1) hl4.ok); clear hl4 K4)
        | (go_at_call 30; (with_reducible refine HSF.out.mono ?_); rintro e w5 ⟨rfl, s, ρ5, hl5, K5, g1, g2, g3, g4⟩; have HSN := Lib.hid hl5.seen; have HB5 := Lib.hid (HB4.out.1.keep K5 ro1); have HS := Lib.hid (And.intro hl5 (And.intro g1 (And.intro g2 g3))); clear hl5 K5 g1 g2 g3 g4)
        | (go_at_call 25; (with_reducible refine HSN.out.mono ?_); rintro e w6 ⟨A6, cap6, rfl, hi6, hb6⟩; have HB6 := Lib.hid (HB5.out.below hb6); have d3 : w6.cell? ⟨W.heap.size, 3, none⟩ = some (.slice A1 n1 c1) := (by have h0 := HB6.out.1; rw [← HBX.out] at h0; exact cell_of_obj h0 3); have HI6 := Lib.hid ((hi6.z (fun g hg => HS.out.1.free g hg))); have HL6 := Lib.hid (HS.out.1.go hb6); clear hi6 hb6)
        | (go_at_call 24; (with_reducible refine (HFEW1.out _ HL6.out.below).mono ?_); rintro e w7 ⟨A7, cap7, rfl, hf7, hb7⟩; have HL7 := Lib.hid (HL6.out.again hb7 hf7); have HB7 := Lib.hid (HB6.out.below hb7); have HI7 := Lib.hid (HI6.out.below hb7); clear hf7 hb7)
        | fail)
      have hwl : 0 < s.seenL.length := by
        have h1 := safe_names HL.out.2.1 HL.out.2.2.2
        rw [HAP.out] at h1
        rw [seenL_eq HS.out.1.ok HS.out.2.1.off, List.length_map, HS.out.2.2.2]
        exact List.length_pos_iff.2 h1
      have HWL := Lib.hid hwl
      obtain ⟨qs1, hqs1⟩ : ∃ qs1, fewQ l1 = qs1 := ⟨_, rfl⟩
      rw [hqs1] at HL7 HQF1 HFL1 ⊢
      obtain ⟨N1, hN1⟩ : ∃ N1, qs1.length = N1 := ⟨_, rfl⟩
      rw [hN1]
      have HN1 := Lib.hid hN1
      obtain ⟨LW, hLW⟩ : ∃ LW, s.seenL.length = LW := ⟨_, rfl⟩
      rw [hLW] at HI7 HWL ⊢
      have HLW := Lib.hid hLW
      clear hN1 hqs1 hwl hLW hcv d3 HL6 HI6 HB6 HB5 HSF HSN HOWN HB3 HB4 HAP HC4 HFEW1
      go_loopw [8] (fun iv wr => SafeR2 W D qs1 A7 cap7 bx s w5.heap.size (.slice A6 LW cap6) iv wr) (fun iv _ => (N1 - intOf iv).toNat)
      case atStart =>
        exact ⟨0, _, s, ρ5, rfl, Nat.zero_le _, by have := HK.out; omega, HL7.out, HS.out.2.1, Since.start HS.out.1.ok HS.out.2.2.1, HI7.out, HB7.out⟩
      case round =>
        obtain ⟨j, m, d, ρ, rfl, hj, hm, hl, hcalm, hsi, himz, hbxr⟩ := hrel
        rw [HN1.out] at hj
        have hfl := HFL1.out
        have hnn := HN1.out
        by_cases hlt : j < N1
        · have q1 : (j : Int) < (N1 : Int) := by omega
          obtain ⟨q, hq⟩ : ∃ q, qs1[j]? = some q := ⟨qs1[j]'(by omega), List.getElem?_eq_getElem _⟩
          obtain ⟨gq, rfl, d0, d1, d2, d3, d4, d5, d6, d7, d8, d9⟩ := hl.at_ hq
          have hplay := hl.op HQF1.out hq (by omega)
          have hcal := op_calm hcalm q.toM
          have hsin : q.kind = 1 → Since s (d.op q.toM).1 := fun e => by
            have e2 : d.op q.toM = d.append q.name.data.toList q.b := by unfold DM.op; exact if_pos e
            rw [e2]
            exact hsi.append HS.out.1.ok hl.ok _ _
          obtain ⟨r, hr⟩ : ∃ r, d.op q.toM = r := ⟨_, rfl⟩
          rw [hr] at hplay hcal hsin
          obtain ⟨d', f⟩ := r
          obtain ⟨kd, on, nq, name, dst, Ab, cb, b, p0, p1, p2, Aq, np2, cp2⟩ := q
          unfold OpQ.agg at hplay
          dsimp only at d0 d1 d2 d3 d4 d5 d6 d7 d8 d9 hplay hcal hsin
          obtain ⟨Lb, hLb⟩ : ∃ Lb, b.length = Lb := ⟨_, rfl⟩
          rw [hLb] at d5 hplay
          have HPL := Lib.hid hplay
          have HC := Lib.hid (And.intro hcal (And.intro hbxr (And.intro himz (And.intro hl (And.intro hcalm hsi)))))
          have HSI := Lib.hid hsin
          have HW := Lib.hid (w64s (k := j) (by omega))
          have HLT := Lib.hid hlt
          have HM := Lib.hid hm
          clear hq hplay hcal hsin hr hLb hl hcalm hsi himz hbxr hj hm hfl hnn hlt
          by_cases k1 : kd = 1
          · subst k1
            go_wp2_with (first
              | (go_at_call 26; (with_reducible refine HPL.out.mono ?_); rintro e w8 ⟨rfl, ρ8, hl8, K8⟩; have HL8 := Lib.hid (And.intro hl8 (And.intro (HC.out.2.1.keep K8 ro1) (HC.out.2.2.1.keep K8 ro1))); clear hl8 K8)
              | fail)
            exact ⟨⟨j + 1, m + 1, d', ρ8, by first | rfl | exact congrArg _ HW.out, by rw [HN1.out]; exact HLT.out, by have := HM.out; omega, HL8.out.1, HC.out.1, (by first | exact HSI.out trivial | exact HSI.out rfl), HL8.out.2.2, HL8.out.2.1⟩, by first | exact measure_less HLT.out | (rw [HW.out]; exact measure_less HLT.out)⟩
          · have t1 : (kd == 1) = false := by simpa using k1
            clear k1
            go_wp2
            exact ⟨⟨j + 1, m, d, ρ, by first | rfl | exact congrArg _ HW.out, by rw [HN1.out]; exact HLT.out, by have := HM.out; omega, HC.out.2.2.2.1, HC.out.2.2.2.2.1, HC.out.2.2.2.2.2, HC.out.2.2.1, HC.out.2.1⟩, by first | exact measure_less HLT.out | (rw [HW.out]; exact measure_less HLT.out)⟩
        · have q1 : decide (j < N1) = false := decide_eq_false hlt
          have HL2 := Lib.hid (And.intro hl (And.intro hcalm (And.intro hsi (And.intro himz hbxr))))
          have HM := Lib.hid (show m ≤ 500 by omega)
          clear hl hcalm hsi himz hbxr hj hm hfl hnn hlt
          obtain ⟨wo, rfl⟩ : ∃ wo, wo = wr := ⟨_, rfl⟩
          have hseen := HL2.out.1.seen
          obtain ⟨now, hnow⟩ : ∃ now, d.seenL = now := ⟨_, rfl⟩
          obtain ⟨LN, hLN⟩ : ∃ LN, now.length = LN := ⟨_, rfl⟩
          obtain ⟨lc, hlc⟩ : ∃ lc, d.crash ps = lc := ⟨_, rfl⟩
          obtain ⟨LC, hLC⟩ : ∃ LC, lc.length = LC := ⟨_, rfl⟩
          unfold SeenEnd at hseen
          rw [hnow, hLN] at hseen
          have HSEEN := Lib.hid hseen
          have HNOW := Lib.hid hnow
          have HLN := Lib.hid hLN
          have HLC := Lib.hid hLC
          have HCR := Lib.hid hlc
          clear hseen hnow hLN hlc hLC
          go_wp2_with (first
            | (go_at_call 25; (with_reducible refine HSEEN.out.mono ?_); rintro e w8 ⟨A8, cap8, rfl, hi8, hb8⟩; have d2 : w8.cell? ⟨W.heap.size, 2, none⟩ = some (.slice Ap np cp) := (by have h0 := (HL2.out.2.2.2.2.below hb8).1; rw [← HBX.out] at h0; exact cell_of_obj h0 2); have hcr := (HL2.out.1.go hb8).crash (by have := HM.out; omega) HPS.out.1 HPS.out.2.1 (HPS.out.2.2.below (HL2.out.1.go hb8).below); unfold CrashEnd at hcr; rw [HCR.out, HLC.out] at hcr; have HCRA := Lib.hid hcr; have HI8 := Lib.hid (And.intro hi8 hb8); clear hi8 hb8 hcr)
            | (go_at_call 21; (with_reducible refine HCRA.out.mono ?_); rintro e w9 ⟨A9, cap9, rfl, hi9, hb9⟩; have HI9 := Lib.hid (And.intro hi9 hb9); clear hi9 hb9)
            | fail)
          have hb89 := HI9.out.2
          have hbw9 : Below wo.heap.size wo w9 := HI8.out.2.trans (hb89.mono HI8.out.2.size)
          have HW9 := Lib.hid hbw9
          have HRW := Lib.hid ((HL2.out.2.2.2.1.below hbw9).at_.rdI)
          have HRN := Lib.hid ((HI8.out.1.below hb89).rdI)
          have HRC := Lib.hid HI9.out.1.rdI
          have HWLEN := Lib.hid (seenL_len HS.out.1.ok)
          have HCLEN := Lib.hid (crash_len HL2.out.1.ok ps)
          have HNLEN := Lib.hid (seenL_len HL2.out.1.ok)
          clear hb89 hbw9 d2
          go_loopw [11] (fun iv wr => Loop3 LW w9 iv wr) (fun iv _ => (LW - intOf iv).toNat)
          case atStart => exact ⟨0, 0, rfl, Nat.zero_le _, rfl⟩
          case round =>
            obtain ⟨i3, n3, rfl, hi3, rfl⟩ := hrel
            by_cases hlt : i3 < LW
            · have q1 : (i3 : Int) < (LW : Int) := by omega
              have hlw := HLW.out
              obtain ⟨x, hx⟩ : ∃ x, s.seenL[i3]? = some x := ⟨s.seenL[i3]'(by omega), List.getElem?_eq_getElem _⟩
              obtain ⟨b, hb1, hb2⟩ := HL2.out.2.2.1.was HS.out.1.ok HL2.out.1.ok HS.out.2.1 ps hx
              rw [HCR.out] at hb1
              obtain ⟨y, hym, hyb⟩ := findI_mem hb1
              have hbl : b.length ≤ 10000000 := by
                rw [← hyb]
                rw [← HCR.out] at hym
                have h1 := crash_le hym
                have h2 := HL2.out.1.sz.tot
                have := HM.out
                omega
              obtain ⟨g, o, Ad, cq, rfl, c0, c1, rd, _⟩ := HRW.out i3 x hx
              have hxf : (findI lc (str x.1).data.toList).getD [] = b := by rw [list_str, hb1]; rfl
              have hxs : (findI lc (str x.1).data.toList).isSome = true := by rw [list_str, hb1]; rfl
              have hf := find_all (w9.drewN n3) A9 LC cap9 lc HLC.out HRC.out (str x.1) (by have h1 := HCLEN.out; have h2 := HLC.out; have h3 := HCR.out; rw [h3] at h1; omega) hxf hxs
              obtain ⟨lb, hlb⟩ : ∃ lb, b.length = lb := ⟨_, rfl⟩
              obtain ⟨lx, hlx⟩ : ∃ lx, x.2.length = lx := ⟨_, rfl⟩
              rw [hlb] at hf
              rw [hlx] at c1
              have HF := Lib.hid hf
              have HB := Lib.hid (And.intro hb2 (And.intro hlb (And.intro hlx (And.intro rd hbl))))
              have HW3 := Lib.hid (w64s (k := i3) (by have h1 := HWLEN.out; rw [hlw] at h1; omega))
              have HLT := Lib.hid hlt
              clear hlw hx hb1 hb2 hym hyb hbl rd hxf hxs hf hlb hlx hi3 hlt
              go_wp2_with (first
                | (go_at_call 27; (with_reducible refine HF.out.mono ?_); rintro e w10 ⟨⟨A12, cap12, rfl, hr12, hc12⟩, rfl⟩; have hbe := begins_any (w9.drewN n3) Ad A12 x.2 b lx lb cq cap12 HB.out.2.2.1 HB.out.2.1 HB.out.2.2.2.1 hr12 hc12 (by have h1 := HB.out.2.1; have h2 := HB.out.2.2.2.2; omega); rw [HB.out.1] at hbe; have HBE := Lib.hid hbe; clear hbe hr12 hc12)
                | (go_at_call 31; (with_reducible refine HBE.out.mono ?_); rintro e w11 ⟨rfl, m11, rfl⟩)
                | fail)
              exact ⟨⟨i3 + 1, n3 + m11, by first | rfl | exact congrArg _ HW3.out, HLT.out, by first | rfl | exact World.drewN_drewN _ _ _⟩, by first | exact measure_less HLT.out | (rw [HW3.out]; exact measure_less HLT.out)⟩
            · have q1 : decide (i3 < LW) = false := decide_eq_false hlt
              clear hlt hi3
              go_wp2_with fail
              go_loopw [14] (fun iv wr => Loop3 LC w9 iv wr) (fun iv _ => (LC - intOf iv).toNat)
              case atStart => exact ⟨0, n3, rfl, Nat.zero_le _, rfl⟩
              case round =>
                obtain ⟨i4, n4, rfl, hi4, rfl⟩ := hrel
                by_cases hlt : i4 < LC
                · have q1 : (i4 : Int) < (LC : Int) := by omega
                  have hlw := HLC.out
                  obtain ⟨x, hx⟩ : ∃ x, lc[i4]? = some x := ⟨lc[i4]'(by omega), List.getElem?_eq_getElem _⟩
                  obtain ⟨b, hb1, hb2⟩ := HL2.out.2.2.1.left HL2.out.1.ok HL2.out.2.1.off ps (by rw [HCR.out]; exact hx)
                  rw [HNOW.out] at hb1
                  obtain ⟨y, hym, hyb⟩ := findI_mem hb1
                  have hbl : b.length ≤ 67108864 := by
                    rw [← hyb]
                    rw [← HNOW.out] at hym
                    exact seenL_le HL2.out.1.ok hym
                  obtain ⟨g, o, Ad, cq, rfl, c0, c1, rd, _⟩ := HRC.out i4 x hx
                  have hxf : (findI now (str x.1).data.toList).getD [] = b := by rw [list_str, hb1]; rfl
                  have hxs : (findI now (str x.1).data.toList).isSome = true := by rw [list_str, hb1]; rfl
                  have hf := find_all (w9.drewN n4) A8 LN cap8 now HLN.out HRN.out (str x.1) (by have h1 := HNLEN.out; have h2 := HLN.out; have h3 := HNOW.out; rw [h3] at h1; omega) hxf hxs
                  obtain ⟨lb, hlb⟩ : ∃ lb, b.length = lb := ⟨_, rfl⟩
                  obtain ⟨lx, hlx⟩ : ∃ lx, x.2.length = lx := ⟨_, rfl⟩
                  rw [hlb] at hf
                  rw [hlx] at c1
                  have HF := Lib.hid hf
                  have HB := Lib.hid (And.intro hb2 (And.intro hlb (And.intro hlx (And.intro rd hbl))))
                  have HW4 := Lib.hid (w64s (k := i4) (by have h1 := HCLEN.out; rw [HCR.out, hlw] at h1; omega))
                  have HLT := Lib.hid hlt
                  clear hlw hx hb1 hb2 hym hyb hbl rd hxf hxs hf hlb hlx hi4 hlt
                  go_wp2_with (first
                    | (go_at_call 27; (with_reducible refine HF.out.mono ?_); rintro e w10 ⟨⟨A12, cap12, rfl, hr12, hc12⟩, rfl⟩; have hbe := begins_any (w9.drewN n4) Ad A12 x.2 b lx lb cq cap12 HB.out.2.2.1 HB.out.2.1 HB.out.2.2.2.1 hr12 hc12 (by have h1 := HB.out.2.1; have h2 := HB.out.2.2.2.2; omega); rw [HB.out.1] at hbe; have HBE := Lib.hid hbe; clear hbe hr12 hc12)
                    | (go_at_call 31; (with_reducible refine HBE.out.mono ?_); rintro e w11 ⟨rfl, m11, rfl⟩)
                    | fail)
                  exact ⟨⟨i4 + 1, n4 + m11, by first | rfl | exact congrArg _ HW4.out, HLT.out, by first | rfl | exact World.drewN_drewN _ _ _⟩, by first | exact measure_less HLT.out | (rw [HW4.out]; exact measure_less HLT.out)⟩
                · have q1 : decide (i4 < LC) = false := decide_eq_false hlt
                  have hln64 : LN ≤ 64 := by have h1 := HNLEN.out; rw [HNOW.out, HLN.out] at h1; exact h1
                  obtain ⟨NN, hNN⟩ : ∃ NN, LN + 1 = NN := ⟨_, rfl⟩
                  have hwn : wrap64 ((LN : Int) + 1) = (NN : Int) := by rw [← hNN]; unfold wrap64; omega
                  have hNl : NN ≤ 65 := by omega
                  have HNN := Lib.hid (And.intro hNN hNl)
                  obtain ⟨k0, hkk, kz0, kz1, kz2⟩ := info_parts info_int
                  clear hlt hi4 hln64 hNN hNl
                  go_wp2_with (first
                    | (refine wpList_make_full _ rfl (.tmp 132) (.tmp 132) 23 rfl (w9.drewN n4).heap.size 3 k0 (.int .i64 0) 1 Try.underlying23 hkk kz0 kz1 .i64 .i64 NN NN NN (congrArg (Value.int .i64) hwn) (congrArg (Value.int .i64) hwn) rfl rfl (by rw [kz2]; have := HNN.out.2; omega) (by unfold maxLen; have := HNN.out.2; omega) (Nat.le_refl _) ?_; intro w12 hown12 hgrow12; have HOWN12 := Lib.hid (And.intro (own_int hown12) ((Below.refl (w9.drewN n4).heap.size (w9.drewN n4)).grown hgrow12 (Nat.le_refl _) (fun q hq => by cases hq))); clear hown12 hgrow12)
                    | fail)
                  clear hwn hkk kz0 kz1 kz2
                  go_loopw [18] (fun iv wr => AllRel w12 w9.heap.size NN iv wr) (fun iv _ => (NN - intOf iv).toNat)
                  case atStart =>
                    obtain ⟨⟨cur, hc1, hc2⟩, _⟩ := HOWN12.out
                    exact ⟨0, cur, rfl, Nat.zero_le _, hc1, hc2, fun k h => absurd h (by omega), Below.refl _ _⟩
                  case round =>
                    obtain ⟨i5, cur, rfl, hi5, hcs, hcb, hcm, hb5⟩ := hrel
                    by_cases hlt : i5 < NN
                    · have q1 : (i5 : Int) < (NN : Int) := by omega
                      have c5 := cell_of_obj hcb i5
                      rw [Array.getElem?_eq_getElem (by omega)] at c5
                      obtain ⟨v5, hv5⟩ : ∃ v5, cur[i5]'(by omega) = v5 := ⟨_, rfl⟩
                      rw [hv5] at c5
                      have f5 := free_of_obj hcb i5
                      have HO := Lib.hid (OnlyB.set (OnlyB.refl hcb) (lt_of_obj hcb) i5 (.int .i64 (-1)))
                      have HCB := Lib.hid (And.intro hcb (And.intro hcs (And.intro hcm hb5)))
                      have HW5 := Lib.hid (w64s (k := i5) (by have := HNN.out.2; omega))
                      have HLT := Lib.hid hlt
                      clear hi5 hcs hcb hcm hb5 hlt hv5
                      go_wp2
                      exact ⟨⟨i5 + 1, cur.setIfInBounds i5 (.int .i64 (-1)), by first | rfl | exact congrArg _ HW5.out, HLT.out, by rw [Array.size_setIfInBounds]; exact HCB.out.2.1, HO.out.at_ (lt_of_obj HCB.out.1), fun k hk => by
                        rw [Array.getElem?_setIfInBounds]
                        split
                        · rw [if_pos (by have := HCB.out.2.1; have := HLT.out; omega)]
                        · exact HCB.out.2.2.1 k (by omega), HCB.out.2.2.2.setCell (p := ⟨w9.heap.size, i5, none⟩) (Nat.le_refl _) _⟩, by first | exact measure_less HLT.out | (rw [HW5.out]; exact measure_less HLT.out)⟩
                    · have q1 : decide (i5 < NN) = false := decide_eq_false hlt
                      have hin : i5 = NN := by omega
                      rw [hin] at hcm
                      have hall := picks_all hcb hcm
                      have hbF : Below w9.heap.size w9 wr := ((below_drewN w9 n4).trans HOWN12.out.2).trans hb5
                      have hLF := (HL2.out.1.go HW9.out).go hbF
                      have hm1 : m ≤ 1000 := by have := HM.out; omega
                      have hc0 := hLF.crash hm1 (ps := []) (n := 0) (cp := 0) (Ap := none) rfl (Nat.le_refl _) (fun k p h => by simp at h)
                      have hno := HL2.out.2.2.1.none HS.out.1.ok HS.out.2.1
                      unfold CrashEnd at hc0
                      rw [hno, HLW.out] at hc0
                      have hca := crash_all HL2.out.1.ok HL2.out.2.1.off
                      rw [HNOW.out, HLN.out, HNN.out.1] at hca
                      have HCA := Lib.hid hca
                      have HC0 := Lib.hid hc0
                      have HLF := Lib.hid (And.intro hLF (And.intro hall hbF))
                      have HM1 := Lib.hid hm1
                      have hwl64 : LW ≤ 64 := by have h1 := HWLEN.out; rw [HLW.out] at h1; exact h1
                      have hln64 : LN ≤ 64 := by have h1 := HNLEN.out; rw [HNOW.out, HLN.out] at h1; exact h1
                      have HWL64 := Lib.hid hwl64
                      have HLN64 := Lib.hid hln64
                      have HWSZ : Hid (∀ x ∈ s.seenL, x.2.length ≤ 1000000000000) := Lib.hid (fun x hx => by have := seenL_le HS.out.1.ok hx; omega)
                      have HNSZ : Hid (∀ x ∈ now, x.2.length ≤ 1000000000000) := Lib.hid (fun x hx => by rw [← HNOW.out] at hx; have := seenL_le HL2.out.1.ok hx; omega)
                      have q5 : (0 : Int) < (LW : Int) := by have := HWL.out; omega
                      clear hin hcm hall hbF hLF hm1 hc0 hno hca hcs hcb hb5 hi5 hlt hwl64 hln64
                      go_wp2_with (first
                        | (go_at_call 21; (with_reducible refine HC0.out.mono ?_); rintro e w13 ⟨A13, cap13, rfl, hi13, hb13⟩; have HI13 := Lib.hid (And.intro hi13 hb13); have him := image_any w13 A13 A6 s.seenL s.seenL LW LW cap13 cap6 HLW.out HLW.out hi13.rdI (HRW.out.below (HLF.out.2.2.trans (hb13.mono HLF.out.2.2.size))) (by have := HWL64.out; omega) HWSZ.out; rw [decide_eq_true rfl] at him; have HIM1 := Lib.hid him; clear hi13 hb13 him)
                        | (go_at_call 20; (with_reducible refine HIM1.out.mono ?_); rintro e w14 ⟨rfl, m14, rfl⟩; have hL14 := (HLF.out.1.go HI13.out.2).go (below_drewN w13 m14); have hc1 := hL14.crash HM1.out (ps := List.replicate NN (-1)) (n := NN) (cp := NN) List.length_replicate (Nat.le_refl _) ((HLF.out.2.1.below HI13.out.2).below (below_drewN w13 m14)); unfold CrashEnd at hc1; rw [HCA.out, HLN.out] at hc1; have HC1 := Lib.hid hc1; have HL14 := Lib.hid hL14; clear hc1 hL14)
                        | (go_at_call 21; (with_reducible refine HC1.out.mono ?_); rintro e w15 ⟨A15, cap15, rfl, hi15, hb15⟩; have HI15 := Lib.hid (And.intro hi15 hb15); have hrn := HRN.out.below (((HLF.out.2.2.trans (HI13.out.2.mono HLF.out.2.2.size)).trans ((below_drewN w13 m14).mono (Nat.le_trans HLF.out.2.2.size HI13.out.2.size))).trans (hb15.mono (Nat.le_trans HLF.out.2.2.size HI13.out.2.size))); have him := image_any w15 A15 A8 now now LN LN cap15 cap8 HLN.out HLN.out hi15.rdI hrn (by have := HLN64.out; omega) HNSZ.out; rw [decide_eq_true rfl] at him; have HIM2 := Lib.hid him; have HRN2 := Lib.hid hrn; clear hi15 hb15 him hrn)
                        | (go_at_call 20; (with_reducible refine HIM2.out.mono ?_); rintro e w16 ⟨rfl, m16, rfl⟩; have hL16 := (HL14.out.go HI15.out.2).go (below_drewN w15 m16); have hs16 := hL16.seen; unfold SeenEnd at hs16; rw [HNOW.out, HLN.out] at hs16; have HS16 := Lib.hid hs16; have HL16 := Lib.hid hL16; clear hs16 hL16)
                        | (go_at_call 25; (with_reducible refine HS16.out.mono ?_); rintro e w17 ⟨A17, cap17, rfl, hi17, hb17⟩; have him := image_any w17 A17 A8 now now LN LN cap17 cap8 HLN.out HLN.out hi17.rdI ((HRN2.out.below (below_drewN w15 m16)).below hb17) (by have := HLN64.out; omega) HNSZ.out; rw [decide_eq_true rfl] at him; have HIM3 := Lib.hid him; have HB17 := Lib.hid (HL16.out.go hb17).below; clear hi17 hb17 him)
                        | (go_at_call 20; (with_reducible refine HIM3.out.mono ?_); rintro e w18 ⟨rfl, m18, rfl⟩)
                        | fail)
                      go_ret
                      exact ⟨rfl, HB17.out.trans ((below_drewN w17 m18).mono HB17.out.size)⟩
end Go.Proofs.Ytgkpobajafjdeaa
