/- DiskRoom: the walk. -/
import Derived.Test.YtgkpobajafjdeaaP7
import Derived.Deep.RegionWith
namespace Go.Proofs.Ytgkpobajafjdeaa
open Go.RowKit Go.Maps

set_option maxRecDepth 100000 in
set_option maxHeartbeats 8000000 in
theorem room_walk (W : World) (rm : Int) (A : Option Addr) (n cap : Nat) (l : List OpQ) (hn : l.length = n) (hA : OpsIn W A l) (hq : ∀ q ∈ l, q.At W W.heap.size) :
    Calls Try.prog 4 #[.agg #[.int .i64 rm, .slice A n cap]] W fun e W' => e = .returned (.bool true) ∧ Below W.heap.size W W' := by
  obtain ⟨room, hroom⟩ : ∃ room, rm % 400 = room := ⟨_, rfl⟩
  have hr0 : 0 ≤ room ∧ room < 400 := by rw [← hroom]; exact ⟨Int.emod_nonneg _ (by omega), Int.emod_lt_of_pos _ (by omega)⟩
  have hwi := fun w => within_any w rm 400 (by omega) (by omega)
  rw [hroom] at hwi
  have hwb : Below W.heap.size W (W.alloc (.cells #[.int .i64 rm, .slice A n cap] 50)) := (Below.refl _ _).alloc (Nat.le_refl _) _
  have hnew : Calls Try.prog 23 #[.int .i64 room] (W.alloc (.cells #[.int .i64 rm, .slice A n cap] 50)) fun e w' => ∃ D, e = .returned (.tuple #[.pointer (some ⟨D, 0, none⟩), .int .i64 0]) ∧ DkEnd W.heap.size (fun _ => 0) 1 D (DM.new room) (W.alloc (.cells #[.int .i64 rm, .slice A n cap] 50)) w' := (new_any (W.alloc (.cells #[.int .i64 rm, .slice A n cap] 50)) W.heap.size 1 (fun _ => 0) room (fun _ _ => rfl) hwb.size).mono (by
    rintro e w' (⟨h, _⟩ | ⟨_, h⟩)
    · exact absurd ⟨hr0.1, by omega⟩ h
    · exact h)
  have hqf : ∀ q ∈ fewQ l, q.At W W.heap.size ∧ q.b.length ≤ 4096 := fun q h => ⟨fewQ_at hq q h, (fewQ_bytes h).1⟩
  have hfl := fewQ_len l
  have hfew : ∀ w, Below W.heap.size W w → Calls Try.prog 24 #[.slice A n cap] w (FewEnd l w) := fun w hb => few_any w A n cap l hn (hA.below hb) (fun q h => (hq q h).cap)
  have HFEW := Lib.hid hfew
  have HWI := Lib.hid hwi
  have HWB := Lib.hid hwb
  have HNEW := Lib.hid hnew
  have HQF := Lib.hid hqf
  have HFL := Lib.hid hfl
  have HR0 := Lib.hid hr0
  have q0 : decide ((0 : Int) ≤ room) = true := decide_eq_true hr0.1
  clear hroom hr0 hwi hwb hnew hqf hfl hfew hn hA hq
  go_enter Try.func4, Try.ntmps4
  go_wp2_with (first
    | (go_at_call 22; (with_reducible refine (HWI.out _).mono ?_); rintro e w1 ⟨rfl, rfl⟩)
    | (go_at_call 23; (with_reducible refine HNEW.out.mono ?_); rintro e w2 ⟨D, rfl, he2⟩; have HE2 := Lib.hid he2; have d1 : w2.cell? ⟨W.heap.size, 1, none⟩ = some (.slice A n cap) := (by obtain ⟨ρ', _, K, _⟩ := he2; exact cell_of_obj (((K.2 W.heap.size (by simp)).2 ro1).trans (heap_alloc_new W _)) 1); have hbW := HWB.out.trans (by obtain ⟨_, _, _, _, B⟩ := he2; exact B); have HBW := Lib.hid hbW; clear he2 hbW; have HRM : Hid (Calls Try.prog 15 #[.pointer (some ⟨D, 0, none⟩)] w2 fun e w' => e = .returned (.int .i64 room) ∧ w2 = w') := Lib.hid (by obtain ⟨ρ', ⟨fb, bN, bS, chv, hd⟩, _⟩ := HE2.out; exact room_any w2 _ 1 D bN bS ρ' _ fb chv hd))
    | (go_at_call 13; (with_reducible refine (num_any _ _).mono ?_); rintro e w3 ⟨rfl, rfl⟩)
    | (go_at_call 15; (with_reducible refine HRM.out.mono ?_); rintro e w3 ⟨rfl, rfl⟩)
    | (go_at_call 24; (with_reducible refine (HFEW.out _ HBW.out).mono ?_); rintro e w4 ⟨A4, cap4, rfl, hf4, hb4⟩; have HF4 := Lib.hid (And.intro hf4 hb4); clear hf4 hb4)
    | fail)
  obtain ⟨qs, hqs⟩ : ∃ qs, fewQ l = qs := ⟨_, rfl⟩
  have hL0 := LoopAt.new (qs := fewQ l) ⟨HR0.out.1, by have := HR0.out; omega⟩ HWB.out (fun _ => rfl) HE2.out HF4.out.1 HF4.out.2
  rw [hqs] at hL0 HQF HFL ⊢
  have HL0 := Lib.hid hL0
  obtain ⟨N, hN⟩ : ∃ N, qs.length = N := ⟨_, rfl⟩
  rw [hN]
  have HN := Lib.hid hN
  clear hL0 hN hqs d1 HRM HF4 HE2 HFEW HNEW HBW
  go_loopw [7] (fun iv wr => RoomRel W D qs A4 cap4 room iv wr) (fun iv _ => (N - intOf iv).toNat)
  case atStart =>
    obtain ⟨ρ, h⟩ := HL0.out
    exact ⟨0, _, ρ, rfl, Nat.zero_le _, h, Calm.new room, rfl⟩
  case round =>
    obtain ⟨k, d, ρ, rfl, hk, hl, hcalm, hdr⟩ := hrel
    rw [HN.out] at hk
    by_cases hlt : k < N
    · have q1 : (k : Int) < (N : Int) := by omega
      have hNN := HN.out
      obtain ⟨q, hq⟩ : ∃ q, qs[k]? = some q := ⟨qs[k]'(by omega), List.getElem?_eq_getElem _⟩
      have HQ := Lib.hid hq
      have HL := Lib.hid hl
      have HCA := Lib.hid hcalm
      have HDR := Lib.hid hdr
      have HLT := Lib.hid hlt
      have hseen := hl.seen
      have hsum := imgSum_seen hl.ok hcalm.off
      have huse := hl.ok.used
      rw [hdr, ← hsum] at huse
      have hlen : d.seenL.length ≤ 64 := by
        unfold DM.seenL
        rw [List.length_map]
        split
        · exact Nat.zero_le _
        · exact hl.ok.nameG.len
      obtain ⟨img, himg⟩ : ∃ img, d.seenL = img := ⟨_, rfl⟩
      rw [himg] at hseen hsum huse hlen
      have HSEEN := Lib.hid hseen
      have HSUM := Lib.hid hsum
      have HUSE := Lib.hid huse
      have HLEN := Lib.hid hlen
      have HIM := Lib.hid himg
      obtain ⟨L, hLL⟩ : ∃ L, img.length = L := ⟨_, rfl⟩
      have HLL := Lib.hid hLL
      unfold SeenEnd at HSEEN
      rw [hLL] at HSEEN
      obtain ⟨wo, rfl⟩ : ∃ wo, wo = wr := ⟨_, rfl⟩
      clear hq hl hcalm hdr hlt hseen hsum huse hlen himg hLL hk hNN
      go_wp2_with (go_at_call 25; (with_reducible refine HSEEN.out.mono ?_); rintro e w2 ⟨A2, cap2, rfl, hi2, hb2⟩; have HI2 := Lib.hid hi2; have HB2 := Lib.hid hb2; clear hi2 hb2)
      go_loopw [9, 10] (fun uv jv wq => SumRel L img w2 uv jv wq) (fun _ jv _ => (L - intOf jv).toNat)
      case atStart => exact ⟨0, rfl, Nat.zero_le _, rfl, rfl⟩
      case round =>
        obtain ⟨j, rfl, hj, rfl, rfl⟩ := hrel
        by_cases hjl : j < L
        · have q2 : (j : Int) < (L : Int) := by omega
          have hLL := HLL.out
          obtain ⟨x, hx⟩ : ∃ x, img[j]? = some x := ⟨img[j]'(by omega), List.getElem?_eq_getElem _⟩
          obtain ⟨g, o, Ad, cp, rfl, _, c2, _⟩ := HI2.out.rdI j x hx
          have hmore := imgSum_more hx
          have hle : imgSum (img.take (j + 1)) ≤ imgSum img := by
            unfold imgSum
            conv => rhs; rw [← List.take_append_drop (j + 1) img]
            rw [List.map_append, List.sum_append]
            omega
          have hus := HUSE.out
          have hr0 := HR0.out
          obtain ⟨u, hu⟩ : ∃ u, imgSum (img.take j) = u := ⟨_, rfl⟩
          obtain ⟨bl, hbl⟩ : ∃ bl, x.2.length = bl := ⟨_, rfl⟩
          rw [hu, hbl] at hmore
          rw [hbl] at c2
          rw [hu]
          have HW2 := Lib.hid (show wrap64 ((u : Int) + (bl : Int)) = ((imgSum (img.take (j + 1)) : Nat) : Int) by rw [hmore]; unfold wrap64; omega)
          have HWJ := Lib.hid (w64s (k := j) (by have := HLEN.out; omega))
          have HJL := Lib.hid hjl
          clear hmore hle hus hr0 hu hbl hx hLL hjl hj
          go_wp2
          exact ⟨⟨j + 1, by first | rfl | exact congrArg _ HWJ.out, HJL.out, by first | exact congrArg _ HW2.out | rfl, rfl⟩, by first | exact measure_less HJL.out | (rw [HWJ.out]; exact measure_less HJL.out)⟩
        · have q2 : decide (j < L) = false := decide_eq_false hjl
          have hje : img.take j = img := List.take_of_length_le (by have := HLL.out; omega)
          rw [hje]
          have hjL : j = L := by omega
          have hl2 := HL.out.go HB2.out
          obtain ⟨gq, rfl, d0, d1, d2, d3, d4, d5, d6, d7, d8, d9⟩ := hl2.at_ HQ.out
          have hbx : Below wr.heap.size wr (wr.alloc (.cells q.cells 58)) := (Below.refl _ _).alloc (Nat.le_refl _) _
          have hl3 := hl2.go hbx
          have hk2 : k ≤ 1000 := by have := HLT.out; have := HFL.out; have := HN.out; omega
          have hplay := hl3.op HQF.out HQ.out hk2
          have hok := hl3.ok.op q.toM
          have hcal := op_calm HCA.out q.toM
          have hrm := (op_room d q.toM).1.trans HDR.out
          have happ := append_calm hl3.ok HCA.out q.name.data.toList q.b
          have hqb := (HQF.out q (List.mem_of_getElem? HQ.out)).2
          have hfar := (HQF.out q (List.mem_of_getElem? HQ.out)).1
          have q3 : decide (room < ((imgSum img : Nat) : Int)) = false := decide_eq_false (by have := HUSE.out; omega)
          have hkind : q.kind = 1 → d.op q.toM = d.append q.name.data.toList q.b := fun e => by unfold DM.op; exact if_pos e
          obtain ⟨r, hr⟩ : ∃ r, d.op q.toM = r := ⟨_, rfl⟩
          rw [hr] at hplay hok hcal hrm hkind
          obtain ⟨d', f⟩ := r
          dsimp only at hplay hok hcal hrm
          obtain ⟨u, hu⟩ : ∃ u, imgSum img = u := ⟨_, rfl⟩
          rw [hu] at q3 ⊢
          obtain ⟨kd, on, nn, name, dst, Ab, cb, b, p0, p1, p2, Ap, np, cp⟩ := q
          unfold OpQ.agg OpQ.cells at hplay
          unfold OpQ.cells at hl3 hbx
          dsimp only at d0 d1 d2 d3 d4 d5 d6 d7 d8 d9 hplay hl3 happ hkind hqb hbx
          have hbl2 : ∃ Lb, b.length = Lb := ⟨_, rfl⟩
          obtain ⟨Lb, hLb⟩ := hbl2
          rw [hLb] at d5 hplay hl3 hqb hbx
          have HPL := Lib.hid hplay
          have HHB := Lib.hid (And.intro hcal (And.intro hrm hok))
          have HAP := Lib.hid happ
          have HKI := Lib.hid hkind
          have HU := Lib.hid hu
          have HLB := Lib.hid hLb
          have HQB := Lib.hid hqb
          have HFAR := Lib.hid hfar
          have HBX := Lib.hid hbx
          have HW := Lib.hid (w64s (k := k) (by omega))
          have HJL := Lib.hid hjL
          clear hl2 hl3 hplay hok hcal hrm happ hkind hr hu hLb hqb hfar hbx hje hjl hj hk2
          by_cases k1 : kd = 1
          · subst k1
            have happ := HAP.out
            have hke := HKI.out rfl
            rw [← hke] at happ
            dsimp only at happ
            have HKE := Lib.hid hke
            clear hke
            rcases happ with rfl | ⟨rfl, hn44, hse⟩ | ⟨rfl, hy0, hfi⟩
            · go_wp2_with (first
                | (go_at_call 26; (with_reducible refine HPL.out.mono ?_); rintro e w5 ⟨rfl, ρ5, hl5, K5⟩; have HL5 := Lib.hid hl5; have hob := ((K5.2 wr.heap.size (by simp)).2 (by rw [HL.out.free _ HB2.out.size]; exact ro1)).trans (heap_alloc_new wr _); have e0 : w5.cell? ⟨wr.heap.size, 0, none⟩ = some (.int .i64 1) := cell_of_obj hob 0; have e3 : w5.cell? ⟨wr.heap.size, 3, none⟩ = some (.string name) := cell_of_obj hob 3; have e5 : w5.cell? ⟨wr.heap.size, 5, none⟩ = some (.slice Ab Lb cb) := cell_of_obj hob 5; have HI5 := Lib.hid ((HI2.out.below HBX.out).calm HL.out.free K5 ro1); have HS5 := Lib.hid hl5.seen; clear hob hl5 K5)
                | fail)
              exact ⟨⟨k + 1, d', ρ5, by first | rfl | exact congrArg _ HW.out, by rw [HN.out]; exact HLT.out, HL5.out, HHB.out.1, HHB.out.2.1⟩, by first | exact measure_less HLT.out | (rw [HW.out]; exact measure_less HLT.out)⟩
            · rw [HIM.out] at hse
              have HSE := Lib.hid hse
              have q4 : decide (((u : Nat) : Int) + ((Lb : Nat) : Int) ≤ room) = false := decide_eq_false (by have h1 := HSUM.out; have h2 := HU.out; have h3 := HLB.out; have h4 := HDR.out; simp only [h4] at hn44; omega)
              have HWU := Lib.hid (show wrap64 (((u : Nat) : Int) + ((Lb : Nat) : Int)) = ((u : Nat) : Int) + ((Lb : Nat) : Int) by have := HUSE.out; have := HR0.out; have := HU.out; have := HQB.out; unfold wrap64; omega)
              have hwu := HWU.out
              clear hn44 hse
              go_wp2_with (first
                | (go_at_call 26; (with_reducible refine HPL.out.mono ?_); rintro e w5 ⟨rfl, ρ5, hl5, K5⟩; have HL5 := Lib.hid hl5; have hob := ((K5.2 wr.heap.size (by simp)).2 (by rw [HL.out.free _ HB2.out.size]; exact ro1)).trans (heap_alloc_new wr _); have e0 : w5.cell? ⟨wr.heap.size, 0, none⟩ = some (.int .i64 1) := cell_of_obj hob 0; have e3 : w5.cell? ⟨wr.heap.size, 3, none⟩ = some (.string name) := cell_of_obj hob 3; have e5 : w5.cell? ⟨wr.heap.size, 5, none⟩ = some (.slice Ab Lb cb) := cell_of_obj hob 5; have HI5 := Lib.hid ((HI2.out.below HBX.out).calm HL.out.free K5 ro1); have HS5 := Lib.hid hl5.seen; clear hob hl5 K5)
                | (go_at_call 25; (with_reducible refine HS5.out.mono ?_); rintro e w6 ⟨A6, cap6, rfl, hi6, hb6⟩; rw [HSE.out] at hi6; have HI6 := Lib.hid hi6; have HB6 := Lib.hid hb6; have e0 := cellKeep hb6 e0; have e3 := cellKeep hb6 e3; have e5 := cellKeep hb6 e5; have him := image_any w6 A6 A2 img img L L cap6 cap2 HLL.out HLL.out (by exact hi6.rdI) ((HI5.out.below hb6).rdI) (by have := HLEN.out; have := HLL.out; omega) (fun x hx => by have := img_le hx; have := HUSE.out; have := HR0.out; omega); rw [decide_eq_true rfl] at him; have HIMA := Lib.hid him; rw [HSE.out, HLL.out]; clear hi6 hb6 him)
                | (go_at_call 20; (with_reducible refine HIMA.out.mono ?_); rintro e w7 ⟨rfl, m7, rfl⟩)
                | fail)
              exact ⟨⟨k + 1, d', ρ5, by first | rfl | exact congrArg _ HW.out, by rw [HN.out]; exact HLT.out, (HL5.out.go HB6.out).go (below_drewN _ _), HHB.out.1, HHB.out.2.1⟩, by first | exact measure_less HLT.out | (rw [HW.out]; exact measure_less HLT.out)⟩
            · have hdummy := True.intro
              have q4 : decide (((u : Nat) : Int) + ((Lb : Nat) : Int) ≤ room) = true := decide_eq_true (by have h1 := HSUM.out; have h2 := HU.out; have h3 := HLB.out; have h4 := HDR.out; simp only [h4] at hy0; omega)
              have HWU := Lib.hid (show wrap64 (((u : Nat) : Int) + ((Lb : Nat) : Int)) = ((u : Nat) : Int) + ((Lb : Nat) : Int) by have := HUSE.out; have := HR0.out; have := HU.out; have := HQB.out; unfold wrap64; omega)
              have hwu := HWU.out
              have hb0 : ∃ b0, (findI img name.data.toList).getD [] = b0 := ⟨_, rfl⟩
              obtain ⟨b0, hb0⟩ := hb0
              have hb0l : b0.length ≤ 400 := by
                have h1 := findD_le img name.data.toList
                rw [hb0] at h1
                have := HUSE.out
                have := HR0.out
                omega
              obtain ⟨f0, hf0⟩ : ∃ f0, (findI img name.data.toList).isSome = f0 := ⟨_, rfl⟩
              rw [HIM.out, hb0] at hfi
              obtain ⟨im, him⟩ : ∃ im, d'.seenL = im := ⟨_, rfl⟩
              have himl : im.length ≤ 64 := by
                rw [← him]
                unfold DM.seenL
                rw [List.length_map]
                split
                · exact Nat.zero_le _
                · exact HHB.out.2.2.nameG.len
              obtain ⟨L6, hL6⟩ : ∃ L6, im.length = L6 := ⟨_, rfl⟩
              rw [him] at hfi
              obtain ⟨lb0, hlb0⟩ : ∃ lb0, b0.length = lb0 := ⟨_, rfl⟩
              have HFI := Lib.hid hfi
              have HB0 := Lib.hid hb0
              have HB0L := Lib.hid hb0l
              have HF0 := Lib.hid hf0
              have HIM6 := Lib.hid him
              have HIML := Lib.hid himl
              have HL6 := Lib.hid hL6
              have HLB0 := Lib.hid hlb0
              clear hy0 hfi hb0 hb0l hf0 him himl hL6 hlb0
              go_wp2_with (first
                | (go_at_call 26; (with_reducible refine HPL.out.mono ?_); rintro e w5 ⟨rfl, ρ5, hl5, K5⟩; have HL5 := Lib.hid hl5; have hob := ((K5.2 wr.heap.size (by simp)).2 (by rw [HL.out.free _ HB2.out.size]; exact ro1)).trans (heap_alloc_new wr _); have e0 : w5.cell? ⟨wr.heap.size, 0, none⟩ = some (.int .i64 1) := cell_of_obj hob 0; have e3 : w5.cell? ⟨wr.heap.size, 3, none⟩ = some (.string name) := cell_of_obj hob 3; have e5 : w5.cell? ⟨wr.heap.size, 5, none⟩ = some (.slice Ab Lb cb) := cell_of_obj hob 5; have HI5 := Lib.hid ((HI2.out.below HBX.out).calm HL.out.free K5 ro1); have HS5 := Lib.hid hl5.seen; clear hob hl5 K5)
                | (go_at_call 27; (with_reducible refine (find_all w5 A2 L cap2 img HLL.out HI5.out.rdI name (by have := HLEN.out; have := HLL.out; omega) HB0.out HF0.out).mono ?_); rintro e w6 ⟨⟨A13, cap13, rfl, hrd13⟩, rfl⟩; have HRD13 := Lib.hid hrd13; rw [HLB0.out]; clear hrd13)
                | fail)
              have hs5 := (HL5.out.go ((Below.refl _ _).drew)).seen
              unfold SeenEnd at hs5
              rw [HIM6.out, HL6.out] at hs5
              have HS5' := Lib.hid hs5
              clear hs5
              refine wp_region_held_drew (S := fun w' => w'.cell? ⟨wr.heap.size, 3, none⟩ = some (.string name)) (by kernel_rfl) e3 (fun hHeld => ?_)
              refine wpAnyH_take (i := 0) (v := ?_) rfl (by kernel_rfl) (by kernel_rfl) (by kernel_rfl) (fun _ _ _ h => h) (Or.inl ⟨by rfl, fun w hSw => ?_⟩) hHeld ?_
              rotate_left
              · (try dsimp only at hSw); go_split_ands; go_simp <;> with_reducible rfl
              (try simp only [Act.put, List.getElem_toArray, List.getElem_cons_zero, List.setIfInBounds_toArray, List.set_cons_zero, List.set_cons_succ])
              refine wpAnyH_take (i := 2) (v := ?_) rfl (by kernel_rfl) (by kernel_rfl) (by kernel_rfl) (fun _ _ _ h => h) (Or.inl ⟨by rfl, fun w hSw => ?_⟩) hHeld ?_
              rotate_left
              · (try dsimp only at hSw); go_split_ands; go_simp <;> with_reducible rfl
              (try simp only [Act.put, List.getElem_toArray, List.getElem_cons_succ, List.getElem_cons_zero, List.setIfInBounds_toArray, List.set_cons_zero, List.set_cons_succ])
              refine wpAnyH_take (i := 3) (v := ?_) rfl (by kernel_rfl) (by kernel_rfl) (by kernel_rfl) (fun _ _ _ h => h) (Or.inl ⟨by rfl, fun w hSw => ?_⟩) hHeld ?_
              rotate_left
              · (try dsimp only at hSw); go_split_ands; go_simp <;> with_reducible rfl
              (try simp only [Act.put, List.getElem_toArray, List.getElem_cons_succ, List.getElem_cons_zero, List.setIfInBounds_toArray, List.set_cons_zero, List.set_cons_succ])
              refine wpAnyH_ready (rs := [1]) (by kernel_rfl) (by simp) (AllReadyH.cons rfl (fun K hK => ?_) AllReadyH.nil)
              go_simp
              (with_reducible refine HS5'.out.mono ?_)
              rintro e w6 ⟨A6, cap6, rfl, hi6, hb6⟩
              have hb56 : Below w5.heap.size w5 w6 := ((Below.refl _ _).drew).trans hb6
              have e3 := cellKeep hb56 e3
              have e5 := cellKeep hb56 e5
              have HI6 := Lib.hid hi6
              have HB6 := Lib.hid hb56
              refine hK.out _ _ e3 (fun hHeld => ?_)
              clear hK K hi6 hb6 hb56
              (try simp only [Act.put, List.getElem_toArray, List.getElem_cons_succ, List.getElem_cons_zero, List.setIfInBounds_toArray, List.set_cons_zero, List.set_cons_succ])
              refine wpAnyH_ready (rs := [4]) (by kernel_rfl) (by simp) (AllReadyH.cons rfl (fun K hK => ?_) AllReadyH.nil)
              go_simp
              have hx6 : (findI im name.data.toList).getD [] = b0 ++ b := by rw [HFI.out]; rfl
              have hy6 : (findI im name.data.toList).isSome = true := by rw [HFI.out]; rfl
              (with_reducible refine (find_all w6 A6 L6 cap6 im HL6.out HI6.out.rdI name (by have := HIML.out; have := HL6.out; omega) hx6 hy6).mono ?_)
              rintro e w7 ⟨⟨A15, cap15, rfl, hrd15⟩, rfl⟩
              obtain ⟨l15, hl15⟩ : ∃ l15, (b0 ++ b).length = l15 := ⟨_, rfl⟩
              rw [hl15]
              have HRD15 := Lib.hid hrd15
              have HL15 := Lib.hid hl15
              refine hK.out _ _ e3 (fun hHeld => ?_)
              clear hK K hrd15 hl15
              (try simp only [Act.put, List.getElem_toArray, List.getElem_cons_succ, List.getElem_cons_zero, List.setIfInBounds_toArray, List.set_cons_zero, List.set_cons_succ])
              refine wpAnyH_take (i := 5) (v := ?_) rfl (by kernel_rfl) (by kernel_rfl) (by kernel_rfl) (fun _ _ _ h => h) (Or.inl ⟨by rfl, fun w hSw => ?_⟩) hHeld ?_
              rotate_left
              · (try dsimp only at hSw); go_split_ands; go_simp <;> with_reducible rfl
              (try simp only [Act.put, List.getElem_toArray, List.getElem_cons_succ, List.getElem_cons_zero, List.setIfInBounds_toArray, List.set_cons_zero, List.set_cons_succ])
              refine wpAnyH_take (i := 6) (v := ?_) rfl (by kernel_rfl) (by kernel_rfl) (by kernel_rfl) (fun _ _ _ h => h) (Or.inl ⟨by rfl, fun w hSw => ?_⟩) hHeld ?_
              rotate_left
              · (try dsimp only at hSw); go_split_ands; go_simp <;> with_reducible rfl
              (try simp only [Act.put, List.getElem_toArray, List.getElem_cons_succ, List.getElem_cons_zero, List.setIfInBounds_toArray, List.set_cons_zero, List.set_cons_succ])
              refine wpAnyH_take (i := 7) (v := ?_) rfl (by kernel_rfl) (by kernel_rfl) (by kernel_rfl) (fun _ _ _ h => h) (Or.inl ⟨by rfl, fun w hSw => ?_⟩) hHeld ?_
              rotate_left
              · (try dsimp only at hSw); go_split_ands; go_simp <;> with_reducible rfl
              (try simp only [Act.put, List.getElem_toArray, List.getElem_cons_succ, List.getElem_cons_zero, List.setIfInBounds_toArray, List.set_cons_zero, List.set_cons_succ])
              refine wpAnyH_take (i := 8) (v := ?_) rfl (by kernel_rfl) (by kernel_rfl) (by kernel_rfl) (fun _ _ _ h => h) (Or.inl ⟨by rfl, fun w hSw => ?_⟩) hHeld ?_
              rotate_left
              · (try dsimp only at hSw); go_split_ands; go_simp <;> with_reducible rfl
              (try simp only [Act.put, List.getElem_toArray, List.getElem_cons_succ, List.getElem_cons_zero, List.setIfInBounds_toArray, List.set_cons_zero, List.set_cons_succ])
              refine wpAnyH_take (i := 9) (v := ?_) rfl (by kernel_rfl) (by kernel_rfl) (by kernel_rfl) (fun _ _ _ h => h) (Or.inl ⟨by rfl, fun w hSw => ?_⟩) hHeld ?_
              rotate_left
              · (try dsimp only at hSw); go_split_ands; go_simp <;> with_reducible rfl
              (try simp only [Act.put, List.getElem_toArray, List.getElem_cons_succ, List.getElem_cons_zero, List.setIfInBounds_toArray, List.set_cons_zero, List.set_cons_succ])
              refine wpAnyH_done (by kernel_rfl) ?_ _
              clear e3
              go_wp2_with fail
              refine wp_region_held_drew (S := fun w' => w'.cell? ⟨wr.heap.size, 5, none⟩ = some (.slice Ab Lb cb)) (by kernel_rfl) e5 (fun hHeld => ?_)
              refine wpAnyH_take (i := 0) (v := ?_) rfl (by kernel_rfl) (by kernel_rfl) (by kernel_rfl) (fun _ _ _ h => h) (Or.inl ⟨by rfl, fun w hSw => ?_⟩) hHeld ?_
              rotate_left
              · (try dsimp only at hSw); go_split_ands; go_simp <;> with_reducible rfl
              (try simp only [Act.put, List.getElem_toArray, List.getElem_cons_zero, List.setIfInBounds_toArray, List.set_cons_zero, List.set_cons_succ])
              refine wpAnyH_take (i := 1) (v := ?_) rfl (by kernel_rfl) (by kernel_rfl) (by kernel_rfl) (fun _ _ _ h => h) (Or.inl ⟨by rfl, fun w hSw => ?_⟩) hHeld ?_
              rotate_left
              · (try dsimp only at hSw); go_split_ands; go_simp <;> with_reducible rfl
              (try simp only [Act.put, List.getElem_toArray, List.getElem_cons_succ, List.getElem_cons_zero, List.setIfInBounds_toArray, List.set_cons_zero, List.set_cons_succ])
              refine wpAnyH_take (i := 2) (v := ?_) rfl (by kernel_rfl) (by kernel_rfl) (by kernel_rfl) (fun _ _ _ h => h) (Or.inl ⟨by rfl, fun w hSw => ?_⟩) hHeld ?_
              rotate_left
              · (try dsimp only at hSw); go_split_ands; go_simp <;> with_reducible rfl
              (try simp only [Act.put, List.getElem_toArray, List.getElem_cons_succ, List.getElem_cons_zero, List.setIfInBounds_toArray, List.set_cons_zero, List.set_cons_succ])
              refine wpAnyH_take (i := 3) (v := ?_) rfl (by kernel_rfl) (by kernel_rfl) (by kernel_rfl) (fun _ _ _ h => h) (Or.inl ⟨by rfl, fun w hSw => ?_⟩) hHeld ?_
              rotate_left
              · (try dsimp only at hSw); go_split_ands; go_simp <;> with_reducible rfl
              (try simp only [Act.put, List.getElem_toArray, List.getElem_cons_succ, List.getElem_cons_zero, List.setIfInBounds_toArray, List.set_cons_zero, List.set_cons_succ])
              refine wpAnyH_take (i := 4) (v := ?_) rfl (by kernel_rfl) (by kernel_rfl) (by kernel_rfl) (fun _ _ _ h => h) (Or.inl ⟨by rfl, fun w hSw => ?_⟩) hHeld ?_
              rotate_left
              · (try dsimp only at hSw); go_split_ands; go_simp <;> with_reducible rfl
              (try simp only [Act.put, List.getElem_toArray, List.getElem_cons_succ, List.getElem_cons_zero, List.setIfInBounds_toArray, List.set_cons_zero, List.set_cons_succ])
              refine wpAnyH_take (i := 6) (v := ?_) rfl (by kernel_rfl) (by kernel_rfl) (by kernel_rfl) (fun _ _ _ h => h) (Or.inl ⟨by rfl, fun w hSw => ?_⟩) hHeld ?_
              rotate_left
              · (try dsimp only at hSw); go_split_ands; go_simp <;> with_reducible rfl
              (try simp only [Act.put, List.getElem_toArray, List.getElem_cons_succ, List.getElem_cons_zero, List.setIfInBounds_toArray, List.set_cons_zero, List.set_cons_succ])
              refine wpAnyH_take (i := 7) (v := ?_) rfl (by kernel_rfl) (by kernel_rfl) (by kernel_rfl) (fun _ _ _ h => h) (Or.inl ⟨by rfl, fun w hSw => ?_⟩) hHeld ?_
              rotate_left
              · (try dsimp only at hSw); go_split_ands; go_simp <;> with_reducible rfl
              (try simp only [Act.put, List.getElem_toArray, List.getElem_cons_succ, List.getElem_cons_zero, List.setIfInBounds_toArray, List.set_cons_zero, List.set_cons_succ])
              refine wpAnyH_ready (rs := [5]) (by kernel_rfl) (by simp) (AllReadyH.cons rfl (fun K hK => ?_) AllReadyH.nil)
              go_simp
              have hsrc6 : SrcAt w6.drew A13 b0 := (HRD13.out.1.below HB6.out).src
              (with_reducible refine (copy0_any w6.drew A13 lb0 cap13 b0 HLB0.out hsrc6 (by have := HB0L.out; have := HLB0.out; omega)).mono ?_)
              rintro e w8 ⟨g8, rfl, ht8⟩
              have hb68 : Below w6.heap.size w6 w8 := ((Below.refl _ _).drew).trans ht8.2
              have hWall := (HL5.out.go HB6.out).below.trans (hb68.mono (HL5.out.go HB6.out).below.size)
              obtain ⟨v9, w9, r1, r2, r3, _⟩ := append_bytes w8 w6.drew.heap.size 26 (.slice (some ⟨g8, 0, none⟩) lb0 lb0) b0 ht8.1 Ab cb b (HFAR.out.below hWall).rd.src HFAR.out.nil (by have := HB0L.out; have := HQB.out; have := HLB.out; omega) ht8.2.size
              have hb69 : Below w6.heap.size w6 w9 := hb68.trans (below_grown r3 (fun g hg => (ht8.1.block hg).1) ht8.2.size)
              obtain ⟨A9, cap9, rfl, _⟩ := r2.len2
              rw [HLB.out] at r1
              rw [HL15.out] at r1
              have e58 := cellKeep hb68 e5
              have e59 := cellKeep hb69 e5
              have HR1 := Lib.hid r1
              have heq := eq_any w9 A15 A9 (b0 ++ b) (b0 ++ b) l15 l15 cap15 cap9 HL15.out HL15.out (HRD15.out.1.below hb69) (by have := r2.rd; exact this) (by rw [← HL15.out, List.length_append]; have := HB0L.out; have := HQB.out; have := HLB.out; omega)
              rw [decide_eq_true rfl] at heq
              have HEQ := Lib.hid heq
              have HB9 := Lib.hid hb69
              refine hK.out _ _ e58 (fun hHeld => ?_)
              clear hK K ht8 hb68 hWall r1 r2 r3 hb69 heq
              (try simp only [Act.put, List.getElem_toArray, List.getElem_cons_succ, List.getElem_cons_zero, List.setIfInBounds_toArray, List.set_cons_zero, List.set_cons_succ])
              refine wpAnyH_ready (rs := [8]) (by kernel_rfl) (by simp) (AllReadyH.cons rfl (fun K hK => ?_) AllReadyH.nil)
              refine oper_append_by (.tmp 127) (.tmp 129) 26 rfl rfl rfl HR1.out ?_
              refine hK.out _ _ e59 (fun hHeld => ?_)
              clear hK K
              (try simp only [Act.put, List.getElem_toArray, List.getElem_cons_succ, List.getElem_cons_zero, List.setIfInBounds_toArray, List.set_cons_zero, List.set_cons_succ])
              refine wpAnyH_ready (rs := [9]) (by kernel_rfl) (by simp) (AllReadyH.cons rfl (fun K hK => ?_) AllReadyH.nil)
              go_simp
              (with_reducible refine HEQ.out.mono ?_)
              rintro e w10 ⟨rfl, m10, rfl⟩
              refine hK.out _ _ e59 (fun hHeld => ?_)
              clear hK K
              (try simp only [Act.put, List.getElem_toArray, List.getElem_cons_succ, List.getElem_cons_zero, List.setIfInBounds_toArray, List.set_cons_zero, List.set_cons_succ])
              refine wpAnyH_take (i := 10) (v := ?_) rfl (by kernel_rfl) (by kernel_rfl) (by kernel_rfl) (fun _ _ _ h => h) (Or.inl ⟨by rfl, fun w hSw => ?_⟩) hHeld ?_
              rotate_left
              · (try dsimp only at hSw); go_split_ands; go_simp <;> with_reducible rfl
              (try simp only [Act.put, List.getElem_toArray, List.getElem_cons_succ, List.getElem_cons_zero, List.setIfInBounds_toArray, List.set_cons_zero, List.set_cons_succ])
              refine wpAnyH_take (i := 11) (v := ?_) rfl (by kernel_rfl) (by kernel_rfl) (by kernel_rfl) (fun _ _ _ h => h) (Or.inl ⟨by rfl, fun w hSw => ?_⟩) hHeld ?_
              rotate_left
              · (try dsimp only at hSw); go_split_ands; go_simp <;> with_reducible rfl
              (try simp only [Act.put, List.getElem_toArray, List.getElem_cons_succ, List.getElem_cons_zero, List.setIfInBounds_toArray, List.set_cons_zero, List.set_cons_succ])
              refine wpAnyH_done (by kernel_rfl) ?_ _
              clear e58 e59 e5 e0
              go_wp2
              exact ⟨⟨k + 1, d', ρ5, by first | rfl | exact congrArg _ HW.out, by rw [HN.out]; exact HLT.out, ((HL5.out.go HB6.out).go HB9.out).go (below_drewN _ _), HHB.out.1, HHB.out.2.1⟩, by first | exact measure_less HLT.out | (rw [HW.out]; exact measure_less HLT.out)⟩
          · have t1 : (kd == 1) = false := by simpa using k1
            have t2 : (kd != 1) = true := by simpa using k1
            clear k1
            go_wp2_with (first | (go_at_call 26; (with_reducible refine HPL.out.mono ?_); rintro e w5 ⟨rfl, ρ5, hl5, K5⟩; have HL5 := Lib.hid hl5; have e0 : w5.cell? ⟨wr.heap.size, 0, none⟩ = some (.int .i64 kd) := cell_of_obj (((K5.2 wr.heap.size (by simp)).2 (by rw [HL.out.free _ HB2.out.size]; exact ro1)).trans (heap_alloc_new wr _)) 0; clear hl5 K5) | fail)
            exact ⟨⟨k + 1, d', ρ5, by first | rfl | exact congrArg _ HW.out, by rw [HN.out]; exact HLT.out, HL5.out, HHB.out.1, HHB.out.2.1⟩, by first | exact measure_less HLT.out | (rw [HW.out]; exact measure_less HLT.out)⟩
    · have q1 : decide (k < N) = false := decide_eq_false hlt
      have HB := Lib.hid hl.below
      clear hl hcalm hdr hlt hk
      go_wp2
      go_ret
      exact ⟨rfl, HB.out⟩
end Go.Proofs.Ytgkpobajafjdeaa
