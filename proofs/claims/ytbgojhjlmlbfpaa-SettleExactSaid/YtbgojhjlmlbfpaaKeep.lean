/- Memory by roles: each block has a number that tells what it is for ('ρ'; 0: for nothing yet); a step that touches only blocks of some roles ('Keeps') leaves every list and object of the others as it was. Of no program. -/
import Derived.Test.YtbgojhjlmlbfpaaLists
namespace Go.Proofs.Ytbgojhjlmlbfpaa
open Go.RowKit

/-- An object of n cells, cell by cell. -/
def cellsObj (t : TypeId) (n : Nat) (f : Nat → Value) : Obj := .cells ((List.range n).map f).toArray t (0, 0)
theorem obj_cell {w : World} {B n : Nat} {t : TypeId} {f : Nat → Value} (h : w.heap[B]? = some (cellsObj t n f)) (k : Nat) (hk : k < n) : w.cell? ⟨B, k, none⟩ = some (f k) := by
  rw [cell_of_obj h k]
  simp [hk]
/-- One cell put anew. -/
def setc (f : Nat → Value) (k : Nat) (v : Value) : Nat → Value := fun j => if j = k then v else f j
theorem setc_ne {f : Nat → Value} {k j : Nat} {v : Value} (h : j ≠ k) : setc f k v j = f j := if_neg h
theorem setc_eq {f : Nat → Value} {k : Nat} {v : Value} : setc f k v k = v := if_pos rfl
theorem obj_set (t : TypeId) (n : Nat) (f : Nat → Value) (k : Nat) (v : Value) : Obj.cells (((List.range n).map f).toArray.setIfInBounds k v) t (0, 0) = cellsObj t n (setc f k v) := by
  unfold cellsObj setc
  congr 1
  apply Array.ext_getElem?
  intro j
  rw [Array.getElem?_setIfInBounds]
  simp only [List.size_toArray, List.length_map, List.length_range, List.getElem?_toArray, List.getElem?_map]
  by_cases hk : k = j
  · subst hk
    rw [if_pos rfl]
    split
    · simp [List.getElem?_range ‹_›]
    · rw [List.getElem?_eq_none (by simp; omega)]; rfl
  · rw [if_neg hk]
    by_cases hj : j < n
    · rw [List.getElem?_range hj]
      have : ¬ j = k := fun e => hk e.symm
      simp [this]
    · rw [List.getElem?_eq_none (by simp; omega)]; rfl
theorem OnlyB.obj {w w1 : World} {B n : Nat} {t : TypeId} {f : Nat → Value} (h : OnlyB w w1 B (cellsObj t n f)) (hb : B < w.heap.size) (k : Nat) (v : Value) : OnlyB w (w1.setCell ⟨B, k, none⟩ v) B (cellsObj t n (setc f k v)) := by
  have := OnlyB.set h hb k v
  rwa [obj_set] at this
theorem OnlyB.objSet {w : World} {B n : Nat} {t : TypeId} {f : Nat → Value} (h : w.heap[B]? = some (cellsObj t n f)) (k : Nat) (v : Value) : OnlyB w (w.setCell ⟨B, k, none⟩ v) B (cellsObj t n (setc f k v)) :=
  OnlyB.obj (OnlyB.refl h) (lt_of_obj h) k v

/-- A step that touches blocks of the roles R alone. -/
def Keeps (R : Nat → Prop) (w : World) (ρ : Nat → Nat) (w' : World) (ρ' : Nat → Nat) : Prop :=
  w.heap.size ≤ w'.heap.size ∧ ∀ k, k < w.heap.size → ρ' k = ρ k ∧ (¬ R (ρ k) → w'.heap[k]? = w.heap[k]?)
theorem Keeps.refl (R : Nat → Prop) (w : World) (ρ : Nat → Nat) : Keeps R w ρ w ρ := ⟨Nat.le_refl _, fun _ _ => ⟨rfl, fun _ => rfl⟩⟩
theorem Keeps.trans {R : Nat → Prop} {w w1 w2 : World} {ρ ρ1 ρ2 : Nat → Nat} (h : Keeps R w ρ w1 ρ1) (k : Keeps R w1 ρ1 w2 ρ2) : Keeps R w ρ w2 ρ2 :=
  ⟨Nat.le_trans h.1 k.1, fun j hj => by
    obtain ⟨a, b⟩ := h.2 j hj
    obtain ⟨c, d⟩ := k.2 j (Nat.lt_of_lt_of_le hj h.1)
    exact ⟨c.trans a, fun hR => (d (by rw [a]; exact hR)).trans (b hR)⟩⟩
theorem Keeps.mono {R R' : Nat → Prop} {w w' : World} {ρ ρ' : Nat → Nat} (h : Keeps R w ρ w' ρ') (hR : ∀ r, R r → R' r) : Keeps R' w ρ w' ρ' :=
  ⟨h.1, fun k hk => ⟨(h.2 k hk).1, fun hn => (h.2 k hk).2 (fun h' => hn (hR _ h'))⟩⟩
theorem Keeps.below {w w' : World} (R : Nat → Prop) (ρ : Nat → Nat) (hb : Below w.heap.size w w') : Keeps R w ρ w' ρ :=
  ⟨hb.size, fun k hk => ⟨rfl, fun _ => hb.block k hk⟩⟩
theorem Keeps.alloc (w : World) (R : Nat → Prop) (ρ : Nat → Nat) (o : Obj) : Keeps R w ρ (w.alloc o) ρ := Keeps.below R ρ ((Below.refl _ _).alloc (Nat.le_refl _) o)
theorem Keeps.only {R : Nat → Prop} {w w' : World} {B : Nat} {o : Obj} (ρ : Nat → Nat) (h : OnlyB w w' B o) (hR : R (ρ B)) : Keeps R w ρ w' ρ :=
  ⟨by rw [h.size]; exact Nat.le_refl _, fun k _ => ⟨rfl, fun hn => h.far (fun e => hn (by rw [e]; exact hR))⟩⟩
/-- A block gets a role. -/
def lab (ρ : Nat → Nat) (g r : Nat) : Nat → Nat := fun k => if k = g then r else ρ k
theorem lab_eq {ρ : Nat → Nat} {g r : Nat} : lab ρ g r g = r := if_pos rfl
theorem lab_ne {ρ : Nat → Nat} {g r k : Nat} (h : k ≠ g) : lab ρ g r k = ρ k := if_neg h
theorem Keeps.grown {R : Nat → Prop} {w w' : World} {row : Option Nat} {ρ : Nat → Nat} {g r : Nat} (hg : w.grownBy w' row) (hv : ∀ g, row = some g → ρ g = r) (hR : R r) (hat : row = some g ∨ g = w.heap.size) : Keeps R w ρ w' (lab ρ g r) := by
  refine ⟨hg.size, fun k hk => ⟨?_, fun hn => hg.block k hk (fun e => hn (by rw [hv k e.symm]; exact hR))⟩⟩
  unfold lab
  split
  · rename_i e
    subst e
    rcases hat with h | h
    · exact (hv _ h).symm
    · omega
  · rfl
/-- A block that is there, and of role 0, gets a role: nothing else turns. -/
theorem Keeps.fresh {R : Nat → Prop} {w : World} {ρ : Nat → Nat} {g r : Nat} (h : w.heap.size ≤ g) : Keeps R w ρ w (lab ρ g r) :=
  ⟨Nat.le_refl _, fun k hk => ⟨lab_ne (by omega), fun _ => rfl⟩⟩

/-- Nothing beyond the memory has a role. -/
def Free (w : World) (ρ : Nat → Nat) : Prop := ∀ k, w.heap.size ≤ k → ρ k = 0
theorem Free.le {w w' : World} {ρ : Nat → Nat} (h : Free w ρ) (hs : w.heap.size ≤ w'.heap.size) : Free w' ρ := fun k hk => h k (Nat.le_trans hs hk)
theorem Free.lab {w w' : World} {ρ : Nat → Nat} {g : Nat} (h : Free w ρ) (hs : w.heap.size ≤ w'.heap.size) (hg : g < w'.heap.size) (r : Nat) : Free w' (lab ρ g r) := fun k hk => by
  rw [lab_ne (by omega)]
  exact h k (Nat.le_trans hs hk)

/-- A list of one-cell elements that lies in a block of the role r. -/
def Lst (w : World) (base : Nat) (ρ : Nat → Nat) (r : Nat) (e : TypeId) (v : Value) (n : Nat) (c : Nat → Value) : Prop := One w base e 1 v n c ∧ ∀ g, v.ownBlock = some g → ρ g = r
theorem One.keep {R : Nat → Prop} {w w' : World} {base r n : Nat} {ρ ρ' : Nat → Nat} {e : TypeId} {v : Value} {c : Nat → Value} (h : One w base e 1 v n c) (hr0 : ∀ g, v.ownBlock = some g → ρ g = r) (k : Keeps R w ρ w' ρ') (hr : ¬ R r) : One w' base e 1 v n c :=
  h.same fun g hg => (k.2 g (h.block hg).2).2 (by rw [hr0 g hg]; exact hr)
theorem Lst.keep {R : Nat → Prop} {w w' : World} {base r n : Nat} {ρ ρ' : Nat → Nat} {e : TypeId} {v : Value} {c : Nat → Value} (h : Lst w base ρ r e v n c) (k : Keeps R w ρ w' ρ') (hr : ¬ R r) : Lst w' base ρ' r e v n c :=
  ⟨h.1.keep h.2 k hr, fun g hg => ((k.2 g (h.1.block hg).2).1).trans (h.2 g hg)⟩
/-- An object in a block of the role r. -/
def Objr (w : World) (ρ : Nat → Nat) (r B : Nat) (o : Obj) : Prop := w.heap[B]? = some o ∧ ρ B = r
theorem Objr.keep {R : Nat → Prop} {w w' : World} {r B : Nat} {ρ ρ' : Nat → Nat} {o : Obj} (h : Objr w ρ r B o) (k : Keeps R w ρ w' ρ') (hr : ¬ R r) : Objr w' ρ' r B o :=
  ⟨((k.2 B (lt_of_obj h.1)).2 (by rw [h.2]; exact hr)).trans h.1, ((k.2 B (lt_of_obj h.1)).1).trans h.2⟩

/-- The cells of a list of values. -/
def lst (xs : List Value) (k : Nat) : Value := (xs[k]?).getD (.int .i64 0)
theorem lst_at {xs : List Value} {k : Nat} {x : Value} (h : xs[k]? = some x) : lst xs k = x := by unfold lst; rw [h]; rfl
theorem range_lst (xs : List Value) : (List.range xs.length).map (lst xs) = xs := by
  apply List.ext_getElem?
  intro k
  by_cases hk : k < xs.length
  · rw [List.getElem?_map, List.getElem?_range hk, List.getElem?_eq_getElem hk]
    simp [lst, List.getElem?_eq_getElem hk]
  · rw [List.getElem?_eq_none (by simp; omega), List.getElem?_eq_none (by omega)]
theorem One.congr {w : World} {base sz n : Nat} {e : TypeId} {v : Value} {c c' : Nat → Value} (h : One w base e sz v n c) (hc : ∀ k, k < n * sz → c k = c' k) : One w base e sz v n c' := by
  rcases h with h | ⟨g, cap, cur, h1, h2, h3, h4, h5, h6, h7⟩
  · exact .inl h
  · exact .inr ⟨g, cap, cur, h1, h2, h3, h4, h5, h6, fun k hk => by rw [← hc k hk]; exact h7 k hk⟩
theorem One.row {w : World} {base n : Nat} {e : TypeId} {v : Value} {xs : List Value} (h : One w base e 1 v n (lst xs)) (hn : xs.length = n) : w.ownsRow base e 1 v n xs := by
  have := h.own
  rw [Nat.mul_one, ← hn, range_lst] at this
  rwa [hn] at this
theorem One.ofRow {w : World} {base n : Nat} {e : TypeId} {v : Value} {xs : List Value} (h : w.ownsRow base e 1 v n xs) : One w base e 1 v n (lst xs) := by
  refine One.of ?_
  have e1 : n = xs.length := by have := h.1; omega
  rw [Nat.mul_one, e1, range_lst, ← e1]
  exact h
theorem Lst.ofRow {w : World} {base n r : Nat} {ρ : Nat → Nat} {e : TypeId} {v : Value} {xs : List Value} (h : w.ownsRow base e 1 v n xs) (hr : ∀ g, v.ownBlock = some g → ρ g = r) : Lst w base ρ r e v n (lst xs) := ⟨One.ofRow h, hr⟩
theorem Lst.row {w : World} {base n r : Nat} {ρ : Nat → Nat} {e : TypeId} {v : Value} {xs : List Value} (h : Lst w base ρ r e v n (lst xs)) (hn : xs.length = n) : w.ownsRow base e 1 v n xs := h.1.row hn
/-- One cell of a list put anew. -/
theorem One.put {w : World} {base n g cap k : Nat} {e : TypeId} {c : Nat → Value} (h : One w base e 1 (.slice (some ⟨g, 0, none⟩) n cap) n c) (v : Value) :
    One (w.setCell ⟨g, k, none⟩ v) base e 1 (.slice (some ⟨g, 0, none⟩) n cap) n (setc c k v) ∧ ∃ o, OnlyB w (w.setCell ⟨g, k, none⟩ v) g o := by
  rcases h with ⟨h, _⟩ | ⟨g', cap', cur, h1, h2, h3, h4, h5, h6, h7⟩
  · cases h
  · injection h1 with h1 _ h9
    injection h1 with h1
    injection h1 with h1
    subst h1 h9
    have ho := OnlyB.set (OnlyB.refl h3) (lt_of_obj h3) k v
    refine ⟨.inr ⟨g, cap, _, rfl, h2, ho.at_ (lt_of_obj h3), h4, h5, by simpa using h6, fun j hj => ?_⟩, _, ho⟩
    rw [Array.getElem?_setIfInBounds]
    by_cases hjk : k = j
    · subst hjk
      rw [if_pos rfl, if_pos (by rw [h6]; omega), setc_eq]
    · rw [if_neg hjk, setc_ne (fun e => hjk e.symm)]
      exact h7 j hj
theorem One.free {w : World} {base n g m cap : Nat} {e : TypeId} {c : Nat → Value} (h : One w base e 1 (.slice (some ⟨g, 0, none⟩) m cap) n c) (k : Nat) : w.frozen? ⟨g, k, none⟩ = false := by
  rcases h with ⟨h, _⟩ | ⟨g', cap', cur, h1, h2, h3, h4, h5, h6, h7⟩
  · cases h
  · injection h1 with h1 _ _
    injection h1 with h1
    injection h1 with h1
    subst h1
    exact free_of_obj h3 k
theorem One.len {w : World} {base n : Nat} {e : TypeId} {v : Value} {c : Nat → Value} (h : One w base e 1 v n c) : ∃ A cap, v = .slice A n cap := by
  rcases h with ⟨rfl, rfl⟩ | ⟨g, cap, cur, k1, _⟩
  · exact ⟨_, _, rfl⟩
  · exact ⟨_, _, k1⟩
theorem One.form {w : World} {base n : Nat} {e : TypeId} {v : Value} {c : Nat → Value} (h : One w base e 1 v n c) (hn : 0 < n) : ∃ g cap, v = .slice (some ⟨g, 0, none⟩) n cap := by
  rcases h with ⟨_, rfl⟩ | ⟨g, cap, cur, k1, _⟩
  · omega
  · exact ⟨_, _, k1⟩
theorem One.len_eq {w : World} {b n : Nat} {e : TypeId} {A : Option Addr} {m cap : Nat} {c : Nat → Value} (h : One w b e 1 (.slice A m cap) n c) : n = m := by
  obtain ⟨_, _, e⟩ := h.len
  injection e with _ e _
  exact e.symm
theorem One.get {w : World} {b n : Nat} {e : TypeId} {A : Option Addr} {m cap : Nat} {c : Nat → Value} (h : One w b e 1 (.slice A m cap) n c) {k : Nat} (hk : k < n) : ∃ g, A = some ⟨g, 0, none⟩ ∧ w.cell? ⟨g, k, none⟩ = some (c k) := by
  have h' := h
  rcases h with ⟨k1, rfl⟩ | ⟨g, cap, cur, k1, _⟩
  · omega
  · injection k1 with k1 _ _
    subst k1
    exact ⟨g, rfl, h'.cell rfl (by omega)⟩
end Go.Proofs.Ytbgojhjlmlbfpaa
