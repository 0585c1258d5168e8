/- Words for the laws over a disk that is opened: images in memory beside it, crashes, the argument's box. -/
import Derived.Test.YtgkpobajafjdeaaDsC
import Derived.Test.YtgkpobajafjdeaaP6
namespace Go.Proofs.Ytgkpobajafjdeaa
open Go.RowKit Go.Maps

/-- An image whose blocks are no disk's. -/
def ImgZ (w : World) (base : Nat) (ρ : Nat → Nat) (sv : Value) (img : List (BS × BS)) : Prop :=
  ∃ l : List (BS × Value), LstZ w base ρ 0 28 2 sv l.length (cI l) ∧ l.length = img.length ∧ ∀ (k : Nat) (x : BS × BS), img[k]? = some x → ∃ v, l[k]? = some (x.1, v) ∧ LstZ w base ρ 0 5 1 v x.2.length (cB x.2)
theorem ImgAt.z {w : World} {base : Nat} {ρ : Nat → Nat} {sv : Value} {img : List (BS × BS)} (h : ImgAt w base sv img) (hz : ∀ g, base ≤ g → ρ g = 0) : ImgZ w base ρ sv img := by
  obtain ⟨l, h1, h2, h3⟩ := h
  refine ⟨l, ⟨h1, fun g hg => hz g (h1.block hg).1⟩, h2, fun k x hk => ?_⟩
  obtain ⟨v, e, o⟩ := h3 k x hk
  exact ⟨v, e, o, fun g hg => hz g (o.block hg).1⟩
theorem ImgZ.at_ {w : World} {base : Nat} {ρ : Nat → Nat} {sv : Value} {img : List (BS × BS)} (h : ImgZ w base ρ sv img) : ImgAt w base sv img := by
  obtain ⟨l, h1, h2, h3⟩ := h
  refine ⟨l, h1.1, h2, fun k x hk => ?_⟩
  obtain ⟨v, e, o⟩ := h3 k x hk
  exact ⟨v, e, o.1⟩
theorem ImgZ.keep {R : Nat → Prop} {w w' : World} {base : Nat} {ρ ρ' : Nat → Nat} {sv : Value} {img : List (BS × BS)} (h : ImgZ w base ρ sv img) (K : Keeps R w ρ w' ρ') (hR : ¬ R 0) : ImgZ w' base ρ' sv img := by
  obtain ⟨l, h1, h2, h3⟩ := h
  refine ⟨l, h1.keep K hR, h2, fun k x hk => ?_⟩
  obtain ⟨v, e, o⟩ := h3 k x hk
  exact ⟨v, e, o.keep K hR⟩
theorem ImgZ.below {w w' : World} {base : Nat} {ρ : Nat → Nat} {sv : Value} {img : List (BS × BS)} (h : ImgZ w base ρ sv img) (hb : Below w.heap.size w w') : ImgZ w' base ρ sv img := h.keep (Keeps.below (fun _ => False) ρ hb) id
/-- A block of the call's own that is no disk's. -/
def BoxAt (w : World) (ρ : Nat → Nat) (B : Nat) (o : Obj) : Prop := w.heap[B]? = some o ∧ ρ B = 0
theorem BoxAt.keep {R : Nat → Prop} {w w' : World} {ρ ρ' : Nat → Nat} {B : Nat} {o : Obj} (h : BoxAt w ρ B o) (K : Keeps R w ρ w' ρ') (hR : ¬ R 0) : BoxAt w' ρ' B o := Objr.keep h K hR
theorem BoxAt.below {w w' : World} {ρ : Nat → Nat} {B : Nat} {o : Obj} (h : BoxAt w ρ B o) (hb : Below w.heap.size w w') : BoxAt w' ρ B o := h.keep (Keeps.below (fun _ => False) ρ hb) id
theorem ro13 : ¬ ((∃ k, (0 : Nat) = ro 1 k) ∨ ∃ k, (0 : Nat) = ro 3 k) := by
  rintro (⟨k, h⟩ | ⟨k, h⟩) <;> unfold ro at h <;> omega
/-- A disk that is opened, and a first list of steps. -/
theorem LoopAt.open_ {W w0 w1 w2 : World} {D : Nat} {ρ : Nat → Nat} (hb : Below W.heap.size W w0) (hρ : ∀ g, ρ g = 0) (he : OpenEnd W.heap.size ρ 1 D (DM.new 67108864) w0 w1) {qs : List OpQ} {A : Option Addr} {cap : Nat} (hf : One w2 w1.heap.size 58 10 (.slice A qs.length cap) qs.length (cO qs)) (hb2 : Below w1.heap.size w1 w2) {B : Nat} {o : Obj} (hB : w0.heap[B]? = some o) :
    ∃ ρ', LoopAt W D qs A cap (DM.new 67108864) 0 ρ' w2 ∧ BoxAt w2 ρ' B o := by
  obtain ⟨ρ', h1, h2, h3, h4⟩ := he
  have hbW := hb.trans h4
  have hbx : BoxAt w1 ρ' B o := BoxAt.keep (ρ := ρ) ⟨hB, hρ B⟩ h2 ro13
  exact ⟨ρ', ⟨h1.below hb2, h3.le hb2.size, DM.Ok.new ⟨by omega, by omega⟩, DM.Sz.new _, hbW.trans (hb2.mono hbW.size), fun g hg => ((h2.2 g (Nat.lt_of_lt_of_le hg hb.size)).1).trans (hρ g), hf.weak hbW.size, fun g hg => h3 g (hf.block hg).1⟩, hbx.below hb2⟩
/-- Another list of steps. -/
theorem LoopAt.again {W w1 w2 : World} {D k cap cap' : Nat} {qs qs' : List OpQ} {A A' : Option Addr} {d : DM} {ρ : Nat → Nat} (h : LoopAt W D qs A cap d k ρ w1) (hb2 : Below w1.heap.size w1 w2) (hf : One w2 w1.heap.size 58 10 (.slice A' qs'.length cap') qs'.length (cO qs')) : LoopAt W D qs' A' cap' d k ρ w2 :=
  ⟨h.disk.below hb2, h.free.le hb2.size, h.ok, h.sz, h.below.trans (hb2.mono h.below.size), h.zero, hf.weak h.below.size, fun g hg => h.free g (hf.block hg).1⟩
theorem most_le (d : DM) (j : Nat) : (d.file j).most ≤ d.tot := by
  unfold DM.file DM.tot
  cases h : d.files[j]? with
  | none => simp [FM.most]
  | some x => exact sum_le_of_mem (List.mem_map.2 ⟨x, List.mem_of_getElem? h, rfl⟩)
theorem LoopAt.crash {W wr : World} {D k cap : Nat} {qs : List OpQ} {A : Option Addr} {d : DM} {ρ : Nat → Nat} (h : LoopAt W D qs A cap d k ρ wr) (hk : k ≤ 1000) {Ap : Option Addr} {n cp : Nat} {ps : List Int} (hps : ps.length = n) (hcap : n ≤ cp) (hp : PicksIn wr Ap ps) : Calls Try.prog 21 #[.pointer (some ⟨D, 0, none⟩), .slice Ap n cp] wr (CrashEnd d ps wr) := by
  obtain ⟨fb, bN, bS, chv, hd⟩ := h.disk
  exact crash_any wr W.heap.size 1 D bN bS ρ d fb chv hd Ap n cp ps hps hcap hp h.ok.playOk (by have := h.sz.chl; omega) h.ok.sureG.ok (by have := h.ok.sureG.len; omega) h.ok (fun j => by have := h.sz.units j; omega) (fun j => by have := most_le d j; have := h.sz.tot; omega)
theorem LoopAt.safe {W wr : World} {D k cap : Nat} {qs : List OpQ} {A : Option Addr} {d : DM} {ρ : Nat → Nat} (h : LoopAt W D qs A cap d k ρ wr) (hc : d.Calm) (hk : k ≤ 1000) : Calls Try.prog 30 #[.pointer (some ⟨D, 0, none⟩)] wr fun e w' => e = .returned (.bool true) ∧ ∃ d' ρ', LoopAt W D qs A cap d' (k + 65) ρ' w' ∧ Keeps (fun r => ∃ k, r = ro 1 k) wr ρ w' ρ' ∧ d'.Calm ∧ d'.AllSafe ∧ d'.names = d.names ∧ d'.room = d.room := by
  refine (allSafe_any wr W.heap.size 1 D ρ d h.disk (by omega) (by omega) h.free h.ok hc h.sz (by omega) (by omega)).mono ?_
  rintro e w' ⟨rfl, d', he, f1, f2, f3, f4, f5, f6⟩
  obtain ⟨ρ', h1, h2⟩ := h.next he f1 (k' := k + 65) (f6.mono (Nat.le_refl _) (by omega))
  exact ⟨rfl, d', ρ', h1, h2, f2, f3, f4, f5⟩
/-- A step that the law makes by itself: its bytes in a block of the call's own. -/
theorem LoopAt.own {W wr : World} {D k cap : Nat} {qs : List OpQ} {A : Option Addr} {d : DM} {ρ : Nat → Nat} (h : LoopAt W D qs A cap d k ρ wr) (hk : k ≤ 1000) (q : OpQ) {g : Nat} (hA : q.Ab = some ⟨g, 0, none⟩) (hg : g < wr.heap.size) (hz : ρ g = 0) (hcell : ∀ k, k < q.b.length → wr.cell? ⟨g, k, none⟩ = some (cB q.b k)) (hn : q.name.size ≤ maxLen) (hd : q.dst.size ≤ maxLen) (hb : q.b.length ≤ 4096) :
    Calls Try.prog 26 #[.pointer (some ⟨D, 0, none⟩), q.agg] wr fun e w' => e = .returned (.int .i64 (d.op q.toM).2) ∧ ∃ ρ', LoopAt W D qs A cap (d.op q.toM).1 (k + 1) ρ' w' ∧ Keeps (fun r => ∃ k, r = ro 1 k) wr ρ w' ρ' := by
  refine (lawplay_far wr W.heap.size 1 D ρ d h.disk (by omega) h.free h.ok h.sz (by omega) (by omega) q (fun e => by rw [hA] at e; cases e) hn hd (fun _ => ⟨g, 0, hA, hg, fun x => by rw [hz]; unfold ro; omega, fun k hk => by rw [Nat.zero_add]; exact hcell k hk⟩) (by omega)).mono ?_
  rintro e w' ⟨rfl, he⟩
  exact ⟨rfl, h.next he (h.ok.op _) ((h.sz.op h.ok q.toM).mono (Nat.le_refl _) (by show 4096 * k + q.b.length ≤ _; omega))⟩
theorem crash_le {d : DM} {ps : List Int} {x : BS × BS} (h : x ∈ d.crash ps) : x.2.length ≤ d.tot := by
  obtain ⟨k, hk, e⟩ := List.getElem_of_mem h
  obtain ⟨p, _, j, rfl⟩ := mem_crash d.file ps.tail (k := k) (x := x) (by rw [← e]; exact List.getElem?_eq_getElem hk)
  exact Nat.le_trans (left_most _ _) (most_le d p.2)
theorem findI_mem {l : List (BS × BS)} {n b : BS} (h : findI l n = some b) : ∃ x ∈ l, x.2 = b := by
  unfold findI at h
  cases hf : l.find? (fun x => x.1 == n) with
  | none => rw [hf] at h; cases h
  | some y =>
    rw [hf] at h
    injection h with h
    exact ⟨y, List.mem_of_find?_eq_some hf, h⟩
theorem crash_len {d : DM} (h : d.Ok) (ps : List Int) : (d.crash ps).length ≤ 64 := by
  unfold DM.crash
  rw [crashL_len]
  exact (h.good _).len
theorem seenL_len {d : DM} (h : d.Ok) : d.seenL.length ≤ 64 := by
  unfold DM.seenL
  rw [List.length_map]
  split
  · exact Nat.zero_le _
  · exact h.nameG.len
theorem seenL_le {d : DM} (h : d.Ok) {x : BS × BS} (hx : x ∈ d.seenL) : x.2.length ≤ 67108864 := by
  unfold DM.seenL at hx
  obtain ⟨p, _, rfl⟩ := List.mem_map.1 hx
  exact h.bytes_le p.1
def Loop3 (L : Nat) (w9 : World) (iv : Value) (wr : World) : Prop := ∃ j n : Nat, iv = .int .i64 j ∧ j ≤ L ∧ wr = w9.drewN n
theorem info_int : (Try.prog.info? 3).map (fun i => (i.zero, i.size, i.bytes)) = some (some (.int .i64 0), 1, 8) := by kernel_rfl
theorem own_int {w w' : World} {n : Nat} {cs : List Value} (h : w'.ownsRow w.heap.size 3 1 (.slice (some ⟨w.heap.size, 0, none⟩) n n) n cs) : ∃ cur : Array Value, cur.size = n ∧ w'.heap[w.heap.size]? = some (.cells cur 3 (0, 0)) := by
  rcases h.2 with ⟨h1, _⟩ | ⟨g, cap, cur, h1, h2, h3, h4, h5, h6, _⟩
  · cases h1
  · injection h1 with h1 _ h8
    injection h1 with h1
    injection h1 with h1
    subst h1 h8
    exact ⟨cur, by omega, by simpa using h3⟩
/-- The list of picks that are all -1: j are laid. -/
def AllRel (w1 : World) (g n : Nat) (iv : Value) (wr : World) : Prop := ∃ (j : Nat) (cur : Array Value), iv = .int .i64 j ∧ j ≤ n ∧ cur.size = n ∧ wr.heap[g]? = some (.cells cur 3 (0, 0)) ∧ (∀ k, k < j → cur[k]? = some (.int .i64 (-1))) ∧ Below g w1 wr
theorem picks_all {w : World} {g n : Nat} {cur : Array Value} (h : w.heap[g]? = some (.cells cur 3 (0, 0))) (hc : ∀ k, k < n → cur[k]? = some (.int .i64 (-1))) : PicksIn w (some ⟨g, 0, none⟩) (List.replicate n (-1)) := fun k p hk => by
  have hl := (List.getElem?_eq_some_iff.1 hk).1
  rw [List.length_replicate] at hl
  rw [List.getElem?_replicate, if_pos hl] at hk
  injection hk with hk
  subst hk
  exact ⟨g, 0, rfl, lt_of_obj h, by rw [Nat.zero_add, cell_of_obj h]; exact hc k hl⟩
end Go.Proofs.Ytgkpobajafjdeaa
