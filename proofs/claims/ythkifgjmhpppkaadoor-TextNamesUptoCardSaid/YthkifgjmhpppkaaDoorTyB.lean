/- text.Home: the walk. -/
import Derived.Test.YthkifgjmhpppkaaDoorTyA
import Derived.Test.YthkifgjmhpppkaaDoorTxZ
import Derived.Test.YthkifgjmhpppkaaDoorTxX
import Derived.Lib.ConvBytes
namespace Go.Proofs.YthkifgjmhpppkaaDoor
open Go.RowKit

/-! ### []byte(s) -/
noncomputable def convW (w : World) (s : ByteArray) : World := Lib.bytesWorld w 5 s
noncomputable def convC (w : World) (s : ByteArray) : Nat := grownCap w s.size 0 5
theorem conv_run (s : ByteArray) (w : World) : (convert 9 58 (.string s)).run Tryd.prog w = .ok (.slice (some ⟨w.heap.size, 0, none⟩) s.size (convC w s)) (convW w s) :=
  Lib.run_convert_string_bytes w 9 58 5 s Tryd.underlying9 Tryd.underlying58 Tryd.underlying5
theorem conv_size (w : World) (s : ByteArray) : (convW w s).heap.size = w.heap.size + 1 := Lib.bytesWorld_size w 5 s
theorem conv_below (w : World) (s : ByteArray) : Below w.heap.size w (convW w s) :=
  ⟨rfl, rfl, rfl, by rw [conv_size]; omega, fun i hi => Lib.bytesWorld_at_old w 5 s i hi⟩
theorem conv_ri (w : World) (s : ByteArray) (hs : s.size ≤ 1048576) : RI .u8 (convW w s) (some ⟨w.heap.size, 0, none⟩) (numsB s.data.toList) := by
  have hl : s.data.toList.length = s.size := rfl
  have hn : (numsB s.data.toList).length = s.size := by unfold numsB; rw [List.length_map]; rfl
  refine ⟨by omega, fun _ => ⟨_, rfl, fun j n hj => ?_⟩⟩
  have hjl : j < s.size := by rw [← hn]; exact (List.getElem?_eq_some_iff.1 hj).1
  have h1 := Lib.bytesWorld_cell w 5 s j hjl
  have e : (⟨w.heap.size, 0, none⟩ : Addr).add j = ⟨w.heap.size, j, none⟩ := by unfold Addr.add; split <;> simp_all
  rw [e]
  refine h1.trans ?_
  unfold numsB at hj
  rw [List.getElem?_map] at hj
  rw [List.getD_eq_getElem?_getD]
  cases hx : s.data.toList[j]? with
  | none => rw [hx] at hj; cases hj
  | some b =>
    rw [hx] at hj
    have : ((b.toNat : Nat) : Int) = n := by simpa using hj
    rw [← this]
    rfl
theorem nums_wf (l : List UInt8) : ∀ z ∈ numsB l, 0 ≤ z ∧ z < 256 := fun z hz => by
  obtain ⟨b, _, rfl⟩ := List.mem_map.1 hz
  have := b.toNat_lt
  omega
theorem nums_len (s : ByteArray) : (numsB s.data.toList).length = s.size := by unfold numsB; rw [List.length_map]; rfl
theorem sum_conv (w : World) (s : ByteArray) (hs : s.size ≤ 1048576) : Calls Tryd.prog 45 #[.slice (some ⟨w.heap.size, 0, none⟩) s.size (convC w s)] (convW w s) fun e w' => e = .returned (.int .u32 (sumN (numsB s.data.toList) : Nat)) ∧ Below w.heap.size w w' := by
  have := sum_any (some ⟨w.heap.size, 0, none⟩) (convC w s) (numsB s.data.toList) (convW w s) (conv_ri w s hs) (nums_wf _) (by rw [nums_len]; exact hs)
  rw [nums_len] at this
  exact this.mono fun _ _ ⟨h1, h2⟩ => ⟨h1, (conv_below w s).trans (h2.mono (by rw [conv_size]; omega))⟩
theorem sum_lt (l : List Int) (h : ∀ z ∈ l, 0 ≤ z ∧ z < 256) : sumN l < 4294967296 := by
  have hr : ∀ (l : List Int) (n : Nat), (∀ z ∈ l, 0 ≤ z ∧ z < 256) → n < 4294967296 → regN l n < 4294967296 := fun l => by
    induction l with
    | nil => intro n _ h; exact h
    | cons z t ih =>
      intro n hz hn
      exact ih (oneB n z.toNat) (fun y hy => hz y (List.mem_cons_of_mem _ hy)) (oneB_lt n z.toNat hn (by have := hz z List.mem_cons_self; omega))
  exact xor32 (by decide) (hr l _ h (by decide))
def homeN (l : List UInt8) (n : Int) : Int := if n < 1 then 0 else ((sumN (numsB (foldP l)) : Nat) : Int) % n
def HomeEnd (l : List UInt8) (n : Int) (w : World) (e : Ending) (w' : World) : Prop := e = .returned (.int .i64 (homeN l n)) ∧ Below w.heap.size w w'
set_option maxRecDepth 100000 in
theorem home_any (s : ByteArray) (n : Int) (w : World) (hT : Tabs w) (hs : s.size ≤ 1048576) (hn0 : -9223372036854775808 ≤ n) (hn1 : n ≤ 9223372036854775807) : Calls Tryd.prog 27 #[.string s, .int .i64 n] w (HomeEnd s.data.toList n w) := by
  by_cases h1 : n < 1
  · have HH := Lib.hid (show homeN s.data.toList n = 0 from if_pos h1)
    go_enter Tryd.func27, Tryd.ntmps27
    go_wp2
    go_ret
    exact ⟨by rw [HH.out]; rfl, Below.refl _ _⟩
  · have HH := Lib.hid (show homeN s.data.toList n = ((sumN (numsB (foldP s.data.toList)) : Nat) : Int) % n from if_neg h1)
    have hfl := fold_len _ s.data.toList (Nat.le_refl _)
    have hF := fold_any s w hT hs
    unfold FoldEnd at hF
    obtain ⟨fb, hfb⟩ : ∃ fb : ByteArray, (⟨(foldP s.data.toList).toArray⟩ : ByteArray) = fb := ⟨_, rfl⟩
    have hfd : fb.data.toList = foldP s.data.toList := by rw [← hfb]
    have hfs : fb.size ≤ 1048576 := by
      have e1 : fb.data.toList.length = fb.size := rfl
      have e2 : s.data.toList.length = s.size := rfl
      rw [hfd, hfl] at e1
      omega
    rw [hfb] at hF
    have HF := Lib.hid hF
    have HFD := Lib.hid hfd
    have hsum := fun W => sum_conv W fb hfs
    have hlt := sum_lt _ (nums_wf fb.data.toList)
    rw [hfd] at hsum hlt
    obtain ⟨S, hS⟩ : ∃ S, sumN (numsB (foldP s.data.toList)) = S := ⟨_, rfl⟩
    rw [hS] at hsum hlt HH
    have HSU := Lib.hid hsum
    have kc := conv_run fb
    have q1 : (1 : Int) ≤ n := by omega
    have q2 : (0 : Int) ≤ (S : Int) := by omega
    have q3 : (S : Int) < 4294967296 := by omega
    have q4 : (0 : Int) ≤ (S : Int) % n := Int.emod_nonneg _ (by omega)
    have q5 : (S : Int) % n < 4294967296 := by
      have hm : (S : Int) % n = ((S % n.toNat : Nat) : Int) := by rw [Int.natCast_emod, Int.toNat_of_nonneg (by omega)]
      have := Nat.mod_le S n.toNat
      omega
    clear hF hfb hfd hfl hsum hlt hS
    go_enter Tryd.func27, Tryd.ntmps27
    go_wp2_with (first | (go_at_call 25; (with_reducible refine HF.out.mono ?_); rintro e w1 ⟨rfl, hb1⟩) | (go_at_call 45; (with_reducible refine (HSU.out _).mono ?_); rintro e w2 ⟨rfl, hb2⟩))
    go_ret
    exact ⟨by rw [HH.out]; rfl, hb1.trans (hb2.mono hb1.size)⟩
end Go.Proofs.YthkifgjmhpppkaaDoor
