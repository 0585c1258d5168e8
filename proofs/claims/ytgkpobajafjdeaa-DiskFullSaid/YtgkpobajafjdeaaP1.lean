/- The disk: names, files, maps in memory; small calls. -/
import Derived.WalkKit
import Derived.BigRegion
import Derived.ChangeAlike
import Derived.Outline
import Derived.Laws.EntriesVeiled
import Derived.WalkLawsBesides
import Derived.Below
import Derived.Deep.Draws
import Derived.Lib.Hide
import Derived.WalkSmall
import Derived.Deep.QuietTactic
import Derived.BigQuiet
import Derived.Deep.RegionHeld3
import Derived.Deep.AppendLies
import Derived.OwnWalk
import Derived.OrdersHeld
import Derived.StillTail
import Derived.Maps.OwnSet
import Derived.Maps.RangeWalk
import Derived.Test.YtgkpobajafjdeaaProg
import Derived.RegionTactic
import Derived.StillTailTactics
import Derived.Deep.MidRow
import Derived.Laws.CopyOwn
import Derived.Laws.OwnMore
import Derived.Maps.AppendAt
/- Words for memory: one block put anew and nothing else turned ('OnlyB'); a row of whole numbers in a block. -/
namespace Go.Proofs.Ytgkpobajafjdeaa
open Go.RowKit

structure OnlyB (w w' : World) (b : Nat) (o : Obj) : Prop where
  os : w'.os = w.os
  tape : w'.tape = w.tape
  output : w'.output = w.output
  heap : w'.heap = w.heap.setIfInBounds b o

theorem cell_of_obj {w : World} {b : Nat} {cs : Array Value} {t : TypeId} (h : w.heap[b]? = some (.cells cs t (0, 0))) (i : Nat) : w.cell? ⟨b, i, none⟩ = cs[i]? := by simp [World.cell?, h]
theorem free_of_obj {w : World} {b : Nat} {cs : Array Value} {t : TypeId} (h : w.heap[b]? = some (.cells cs t (0, 0))) (i : Nat) : w.frozen? ⟨b, i, none⟩ = false := by simp [World.frozen?, h]
theorem set_obj {w : World} {b : Nat} {cs : Array Value} {t : TypeId} (h : w.heap[b]? = some (.cells cs t (0, 0))) (i : Nat) (v : Value) : (w.setCell ⟨b, i, none⟩ v).heap[b]? = some (.cells (cs.setIfInBounds i v) t (0, 0)) := by
  simp [World.setCell, Array.getElem?_modify, h]
theorem set_heap {w : World} {b : Nat} {cs : Array Value} {t : TypeId} (h : w.heap[b]? = some (.cells cs t (0, 0))) (i : Nat) (v : Value) : (w.setCell ⟨b, i, none⟩ v).heap = w.heap.setIfInBounds b (.cells (cs.setIfInBounds i v) t (0, 0)) := by
  apply Array.ext_getElem?
  intro j
  simp only [World.setCell, Array.getElem?_modify, Array.getElem?_setIfInBounds]
  have hb : b < w.heap.size := by
    rcases Nat.lt_or_ge b w.heap.size with h1 | h1
    · exact h1
    · rw [Array.getElem?_eq_none h1] at h; cases h
  by_cases hj : b = j
  · subst hj
    rw [Array.getElem?_eq_getElem hb] at h
    simp only [Option.some.injEq] at h
    simp [hb, h]
  · simp [hj]

theorem OnlyB.refl {w : World} {b : Nat} {o : Obj} (h : w.heap[b]? = some o) : OnlyB w w b o :=
  ⟨rfl, rfl, rfl, by
    apply Array.ext_getElem?
    intro j
    have hb : b < w.heap.size := (Array.getElem?_eq_some_iff.1 h).1
    rw [Array.getElem?_setIfInBounds]
    by_cases hj : b = j
    · subst hj; rw [if_pos rfl, if_pos hb, h]
    · rw [if_neg hj]⟩
theorem OnlyB.set {w w1 : World} {b : Nat} {cs : Array Value} {t : TypeId} (h : OnlyB w w1 b (.cells cs t (0, 0))) (hb : b < w.heap.size) (i : Nat) (v : Value) : OnlyB w (w1.setCell ⟨b, i, none⟩ v) b (.cells (cs.setIfInBounds i v) t (0, 0)) := by
  have h1 : w1.heap[b]? = some (.cells cs t (0, 0)) := by rw [h.heap, Array.getElem?_setIfInBounds, if_pos rfl, if_pos hb]
  refine ⟨h.os, h.tape, h.output, ?_⟩
  rw [set_heap h1, h.heap, Array.setIfInBounds_setIfInBounds]
theorem OnlyB.drew {w w1 : World} {b : Nat} {o : Obj} (h : OnlyB w w1 b o) : OnlyB w w1.drew b o := ⟨h.os, h.tape, h.output, h.heap⟩
theorem OnlyB.drewN {w w1 : World} {b : Nat} {o : Obj} (h : OnlyB w w1 b o) (n : Nat) : OnlyB w (w1.drewN n) b o := ⟨h.os, h.tape, h.output, h.heap⟩
theorem OnlyB.at_ {w w1 : World} {b : Nat} {o : Obj} (h : OnlyB w w1 b o) (hb : b < w.heap.size) : w1.heap[b]? = some o := by
  rw [h.heap, Array.getElem?_setIfInBounds, if_pos rfl, if_pos hb]
theorem OnlyB.far {w w1 : World} {b : Nat} {o : Obj} (h : OnlyB w w1 b o) {k : Nat} (hk : k ≠ b) : w1.heap[k]? = w.heap[k]? := by
  rw [h.heap, Array.getElem?_setIfInBounds, if_neg (fun e => hk e.symm)]
theorem OnlyB.size {w w1 : World} {b : Nat} {o : Obj} (h : OnlyB w w1 b o) : w1.heap.size = w.heap.size := by rw [h.heap, Array.size_setIfInBounds]
theorem lt_of_obj {w : World} {b : Nat} {o : Obj} (h : w.heap[b]? = some o) : b < w.heap.size := (Array.getElem?_eq_some_iff.1 h).1
theorem OnlyB.below {w w1 : World} {b : Nat} {o : Obj} (h : OnlyB w w1 b o) {B : Nat} (hB : B ≤ b) : Below B w w1 :=
  ⟨h.os, h.tape, h.output, by rw [h.size]; exact Nat.le_refl _, fun k hk => h.far (by omega)⟩

theorem OnlyB.trans {w w1 w2 : World} {b : Nat} {o o' : Obj} (h : OnlyB w w1 b o) (k : OnlyB w1 w2 b o') : OnlyB w w2 b o' := by
  refine ⟨k.os.trans h.os, k.tape.trans h.tape, k.output.trans h.output, ?_⟩
  rw [k.heap, h.heap, Array.setIfInBounds_setIfInBounds]
theorem OnlyB.of_drewN {w w1 : World} {b n : Nat} {o : Obj} (h : OnlyB (w.drewN n) w1 b o) : OnlyB w w1 b o := ⟨h.os, h.tape, h.output, h.heap⟩
theorem OnlyB.cell {w w1 : World} {b : Nat} {o : Obj} (h : OnlyB w w1 b o) {a : Addr} (ha : a.block ≠ b) : w1.cell? a = w.cell? a := World.cell?_of_block (w := w) (h.far ha)

/-- Behind a call that makes memory: old cells and old marks read as before (the walk takes the two as rules). -/
theorem bcell {W w1 : World} (hb : Below W.heap.size W w1) : (∀ b o, b < W.heap.size → w1.cell? ⟨b, o, none⟩ = W.cell? ⟨b, o, none⟩) ∧ (∀ b o, b < W.heap.size → w1.frozen? ⟨b, o, none⟩ = W.frozen? ⟨b, o, none⟩) :=
  ⟨fun b o h => hb.cell (p := ⟨b, o, none⟩) h, fun b o h => hb.frozen (p := ⟨b, o, none⟩) h⟩
theorem cellKeep {W w1 : World} (hb : Below W.heap.size W w1) {a : Addr} {v : Value} (h : W.cell? a = some v) : w1.cell? a = some v := (hb.cell (World.block_lt_of_cell? W a h)).trans h
/-- A contract that leaves the world alone, the other way round: so that a walk keeps its world's name. -/
theorem flipW {P : Program} {f : FuncId} {args : Array Value} {w : World} {R : Ending → Prop} (h : Calls P f args w fun e w' => R e ∧ w' = w) : Calls P f args w fun e w' => R e ∧ w = w' :=
  h.mono fun _ _ ⟨a, b⟩ => ⟨a, b.symm⟩
/-- Quiet calls behind draws that have been joined. -/
theorem quietAdd {P : Program} {f : FuncId} {args : Array Value} {w : World} {a n : Nat} {v : Value}
    (h : Calls P f args (w.drewN (a + n)) fun e w' => e = .returned v ∧ ∃ m, w' = (w.drewN (a + n)).drewN m) :
    Calls P f args (w.drewN (a + n)) fun e w'' => e = .returned v ∧ ∃ m, w'' = w.drewN (a + m) :=
  h.mono fun _ _ ⟨he, m, hm⟩ => ⟨he, n + m, by rw [hm, World.drewN_drewN, Nat.add_assoc]⟩
theorem quietAddSame {P : Program} {f : FuncId} {args : Array Value} {w : World} {a n : Nat} {v : Value}
    (h : Calls P f args (w.drewN (a + n)) fun e w' => e = .returned v ∧ w' = w.drewN (a + n)) :
    Calls P f args (w.drewN (a + n)) fun e w'' => e = .returned v ∧ ∃ m, w'' = w.drewN (a + m) :=
  h.mono fun _ _ ⟨he, hm⟩ => ⟨he, n, hm⟩
/-- A block of ints. -/
def rowObj (t : TypeId) (L : List Int) : Obj := .cells (L.map (Value.int .i64)).toArray t (0, 0)
theorem row_cell {w : World} {g t : Nat} {L : List Int} (h : w.heap[g]? = some (rowObj t L)) (j : Nat) (hj : j < L.length) : w.cell? ⟨g, j, none⟩ = some (.int .i64 (L.getD j 0)) := by
  rw [cell_of_obj h j]
  simp [List.getElem?_eq_getElem hj]
theorem row_free {w : World} {g t : Nat} {L : List Int} (h : w.heap[g]? = some (rowObj t L)) (j : Nat) : w.frozen? ⟨g, j, none⟩ = false := free_of_obj h j
theorem row_set (t : TypeId) (L : List Int) (j : Nat) (v : Int) : Obj.cells ((L.map (Value.int .i64)).toArray.setIfInBounds j (.int .i64 v)) t (0, 0) = rowObj t (L.set j v) := by
  unfold rowObj
  congr 1
  simp [List.map_set]
end Go.Proofs.Ytgkpobajafjdeaa

/- Lists that each hold a mark of their own: 'One' (a list of n elements whose cells are c 0, c 1, ..), and append with the mark's own cells: every list keeps its mark ('run_append_marked'). Of no program: types and sizes are letters. -/
namespace Go.Proofs.Ytgkpobajafjdeaa
open Go.RowKit

/-- The list v, n elements of sz cells, holds the cells c 0, c 1, ..; it lies in a block from base on. -/
def One (w : World) (base : Nat) (e : TypeId) (sz : Nat) (v : Value) (n : Nat) (c : Nat → Value) : Prop :=
  (v = .slice none 0 0 ∧ n = 0) ∨ ∃ g cap cur, v = .slice (some ⟨g, 0, none⟩) n cap ∧ base ≤ g ∧ w.heap[g]? = some (.cells cur e (0, 0)) ∧ n ≤ cap ∧ cap ≤ maxLen ∧ cur.size = cap * sz ∧ ∀ k, k < n * sz → cur[k]? = some (c k)

theorem take_marks {cur : Array Value} {m : Nat} {c : Nat → Value} : cur.toList.take m = (List.range m).map c ↔ ∀ k, k < m → cur[k]? = some (c k) := by
  constructor
  · intro h k hk
    have := congrArg (fun l => l[k]?) h
    simp only [List.getElem?_take, hk, if_true, List.getElem?_map, List.getElem?_range hk, Option.map_some] at this
    simpa using this
  · intro h
    apply List.ext_getElem?
    intro k
    by_cases hk : k < m
    · simp only [List.getElem?_take, hk, if_true, List.getElem?_map, List.getElem?_range hk, Option.map_some]
      simpa using h k hk
    · rw [List.getElem?_eq_none (by simp; omega), List.getElem?_eq_none (by simp; omega)]
theorem One.own {w : World} {base sz n : Nat} {e : TypeId} {v : Value} {c : Nat → Value} (h : One w base e sz v n c) : w.ownsRow base e sz v n ((List.range (n * sz)).map c) := by
  refine ⟨by simp, ?_⟩
  rcases h with h | ⟨g, cap, cur, h1, h2, h3, h4, h5, h6, h7⟩
  · exact .inl h
  · exact .inr ⟨g, cap, cur, h1, h2, h3, h4, h5, h6, take_marks.2 h7⟩
theorem One.of {w : World} {base sz n : Nat} {e : TypeId} {v : Value} {c : Nat → Value} (h : w.ownsRow base e sz v n ((List.range (n * sz)).map c)) : One w base e sz v n c := by
  rcases h.2 with h | ⟨g, cap, cur, h1, h2, h3, h4, h5, h6, h7⟩
  · exact .inl h
  · exact .inr ⟨g, cap, cur, h1, h2, h3, h4, h5, h6, take_marks.1 h7⟩
theorem One.block {w : World} {base sz n : Nat} {e : TypeId} {v : Value} {c : Nat → Value} (h : One w base e sz v n c) {g : Nat} (hg : v.ownBlock = some g) : base ≤ g ∧ g < w.heap.size := by
  rcases h with ⟨rfl, _⟩ | ⟨g', cap, cur, rfl, h2, h3, _⟩
  · simp [Value.ownBlock] at hg
  · simp [Value.ownBlock] at hg
    subst hg
    exact ⟨h2, lt_of_obj h3⟩
/-- In a world where the list's block is as it was, it is as it was. -/
theorem One.same {w w1 : World} {base sz n : Nat} {e : TypeId} {v : Value} {c : Nat → Value} (h : One w base e sz v n c) (hb : ∀ g, v.ownBlock = some g → w1.heap[g]? = w.heap[g]?) : One w1 base e sz v n c := by
  rcases h with h | ⟨g, cap, cur, rfl, h2, h3, h4⟩
  · exact .inl h
  · exact .inr ⟨g, cap, cur, rfl, h2, (hb g rfl).trans h3, h4⟩
theorem One.below {w w1 : World} {base sz n : Nat} {e : TypeId} {v : Value} {c : Nat → Value} (h : One w base e sz v n c) (hb : Below w.heap.size w w1) : One w1 base e sz v n c :=
  h.same fun g hg => hb.block g (h.block hg).2
theorem One.only {w w1 : World} {base sz n b : Nat} {e : TypeId} {v : Value} {c : Nat → Value} {o : Obj} (h : One w base e sz v n c) (hb : OnlyB w w1 b o) (hne : v.ownBlock ≠ some b) : One w1 base e sz v n c :=
  h.same fun g hg => hb.far (fun he => hne (by rw [hg, he]))
theorem One.cell {w : World} {base sz n g : Nat} {e : TypeId} {v : Value} {c : Nat → Value} (h : One w base e sz v n c) (hg : v.ownBlock = some g) {k : Nat} (hk : k < n * sz) : w.cell? ⟨g, k, none⟩ = some (c k) := by
  rcases h with ⟨rfl, _⟩ | ⟨g', cap, cur, rfl, h2, h3, h4, h5, h6, h7⟩
  · simp [Value.ownBlock] at hg
  · simp [Value.ownBlock] at hg
    subst hg
    rw [cell_of_obj h3 k]
    exact h7 k hk

/-- THE LAW: append to a list, and what is appended goes on with its mark: the new list holds the mark; every list that does not share the row with another mark holds its own. -/
theorem run_append_marked {P : Program} (w : World) (base : Nat) (t ty e : TypeId) (i : TypeInfo) (z : Value) (size bytes : Nat) (ht : P.underlying t = some (.slice e)) (hi : P.info? e = some i) (hz : i.zero = some z)
    (hsize : i.size = size) (hby : i.bytes = bytes) (hzs : z.cells.size = size) (hsz : 0 < size)
    (v : Value) (n : Nat) (c : Nat → Value) (hv : One w base e size v n c)
    (a : Addr) (m cp : Nat) (news : List Value) (hl : news.length = m * size) (hnc : ∀ k, k < m * size → news[k]? = some (c (n * size + k))) (hnews : ∀ j u, news[j]? = some u → w.cell? (a.add j) = some u) (h1 : ∀ u ∈ news, u.oneCell' = true)
    (hm : 0 < m) (h63 : n + m ≤ maxLen) (hbytes : (n + m) * bytes ≤ 140737488355328) (hbase : base ≤ w.heap.size) :
    ∃ g cap w', (Builtin.append_ #[t, t] ty #[v, .slice (some a) m cp]).run P w = .ok (.slice (some ⟨g, 0, none⟩) (n + m) cap) w' ∧ One w' base e size (.slice (some ⟨g, 0, none⟩) (n + m) cap) (n + m) c ∧ w.grownBy w' v.ownBlock ∧
      (v.ownBlock = some g ∨ g = w.heap.size) ∧ ∀ u nu cu, One w base e size u nu cu → (u.ownBlock = v.ownBlock → cu = c) → One w' base e size u nu cu := by
  obtain ⟨g, cap, w', hr, h2, h3, h4, h5⟩ := run_append_lies (P := P) w t ty base e i z size bytes ht hi hz hsize hby hzs hsz v n _ hv.own a m cp news hl hnews h1 hm h63 hbytes hbase _ rfl
  have hxs : (List.range (n * size)).map c ++ news = (List.range ((n + m) * size)).map c := by
    apply List.ext_getElem?
    intro k
    by_cases hk : k < n * size
    · rw [List.getElem?_append_left (by simpa using hk)]
      simp only [List.getElem?_map, List.getElem?_range hk, List.getElem?_range (show k < (n + m) * size by rw [Nat.add_mul]; omega)]
    · rw [List.getElem?_append_right (by simp; omega)]
      simp only [List.length_map, List.length_range]
      by_cases hk2 : k < (n + m) * size
      · rw [Nat.add_mul] at hk2
        rw [hnc (k - n * size) (by omega)]
        rw [List.getElem?_map, List.getElem?_range (by rw [Nat.add_mul]; omega)]
        simp
        congr 1
        omega
      · rw [Nat.add_mul] at hk2
        rw [List.getElem?_eq_none (by rw [hl]; omega), List.getElem?_eq_none (by simp [Nat.add_mul]; omega)]
  rw [hxs] at h2
  refine ⟨g, cap, w', hr, One.of h2, h3, h4, ?_⟩
  have hsmall : n + m ≤ 9223372036854775807 := by simp only [maxLen] at h63; omega
  intro u nu cu hu hsame
  subst hsize
  subst hby
  rcases hv with ⟨rfl, rfl⟩ | ⟨g0, cap0, cur, rfl, k2, k3, k4, k5, k6, k7⟩
  · have hr2 := run_append_nil (P := P) w t ty e i z ht hi hz a m cp news hl hnews hm (by omega) (by have hb := hbytes; simp only [Nat.zero_add] at hb; omega)
    rw [hr] at hr2
    injection hr2 with _ hr2
    subst hr2
    exact hu.below (((Below.refl _ _).drew).alloc (by simp) _)
  · by_cases hroom : n + m ≤ cap0
    · have hfit : n * i.size + news.length ≤ cur.size := by rw [hl, k6, ← Nat.add_mul]; exact Nat.mul_le_mul_right _ hroom
      have hr2 := run_append_room (P := P) w t ty e i ht hi g0 n cap0 cur k3 a m cp news hl hnews h1 hroom hfit
      rw [hr] at hr2
      injection hr2 with _ hr2
      subst hr2
      by_cases hsb : u.ownBlock = some g0
      · obtain rfl := hsame hsb
        rcases hu with hu | ⟨g1, cap1, cur1, rfl, j2, j3, j4, j5, j6, j7⟩
        · exact .inl hu
        · simp [Value.ownBlock] at hsb
          subst hsb
          obtain rfl : cur1 = cur := by
            rw [k3] at j3
            injection j3 with j3
            injection j3 with j3
            exact j3.symm
          refine .inr ⟨g1, cap1, _, rfl, j2, setRow_heap w g1 cur1 _ e _ k3, j4, j5, ?_, ?_⟩
          · simp only [List.size_toArray, List.length_append, List.length_take, List.length_drop, Array.length_toList]
            omega
          · intro k hk
            rw [List.getElem?_toArray]
            by_cases hk1 : k < n * i.size
            · rw [List.append_assoc, List.getElem?_append_left (by simp; omega), List.getElem?_take, if_pos hk1]
              simpa using k7 k hk1
            · rw [List.append_assoc, List.getElem?_append_right (by simp; omega)]
              have e1 : (List.take (n * i.size) cur1.toList).length = n * i.size := by simp; omega
              rw [e1]
              by_cases hk2 : k < n * i.size + news.length
              · rw [List.getElem?_append_left (by omega), hnc _ (by omega)]
                congr 2
                omega
              · rw [List.getElem?_append_right (by omega), List.getElem?_drop]
                rw [show n * i.size + news.length + (k - n * i.size - news.length) = k by omega]
                simpa using j7 k hk
      · exact hu.same fun b hb => setRow_other w g0 b _ (fun e => hsb (by rw [hb, e]))
    · have hown : One w base e i.size (.slice (some ⟨g0, 0, none⟩) n cap0) n c := .inr ⟨g0, cap0, cur, rfl, k2, k3, k4, k5, k6, k7⟩
      have hr2 := run_append_grow (P := P) w t ty e i z ht hi hz ⟨g0, 0, none⟩ n cap0 _ hown.own.1 (hown.own.cells (g := g0) rfl) a m cp news hl hnews (by omega) (by omega) (growslice_fits (by omega) hbytes)
      rw [hr] at hr2
      injection hr2 with _ hr2
      subst hr2
      exact hu.below (((Below.refl _ _).drew).alloc (by simp) _)
/-- The law at an operation's place, for the walk. -/
theorem wpList_append_marked {P : Program} {w : World} {ops : Array Oper} {rest : List Oper} {o : Oper} {a : Act} {Q : Exit → Act → World → Prop} (hgd : o.guard = none) (s x : Operand) (t : TypeId)
    (ho : o.op = .call { callee := .builtin .append, args := #[s, x], argTypes := #[t, t] })
    (base : Nat) (e : TypeId) (i : TypeInfo) (z : Value) (size bytes : Nat) (ht : P.underlying t = some (.slice e)) (hi : P.info? e = some i) (hz : i.zero = some z)
    (hsize : i.size = size) (hby : i.bytes = bytes) (hzs : z.cells.size = size) (hsz : 0 < size)
    (v : Value) (n : Nat) (c : Nat → Value) (hs : a.eval s = v) (hv : One w base e size v n c)
    (ad : Addr) (m cp : Nat) (news : List Value) (hx : a.eval x = .slice (some ad) m cp) (hl : news.length = m * size) (hnc : ∀ k, k < m * size → news[k]? = some (c (n * size + k))) (hnews : ∀ j u, news[j]? = some u → w.cell? (ad.add j) = some u) (h1 : ∀ u ∈ news, u.oneCell' = true)
    (hm : 0 < m) (h63 : n + m ≤ maxLen) (hbytes : (n + m) * bytes ≤ 140737488355328) (hbase : base ≤ w.heap.size)
    (h : ∀ g cap w', One w' base e size (.slice (some ⟨g, 0, none⟩) (n + m) cap) (n + m) c → w.grownBy w' v.ownBlock → (v.ownBlock = some g ∨ g = w.heap.size) →
      (∀ u nu cu, One w base e size u nu cu → (u.ownBlock = v.ownBlock → cu = c) → One w' base e size u nu cu) → wpList P ops Q rest (a.put o.dst (.slice (some ⟨g, 0, none⟩) (n + m) cap)) w') : wpList P ops Q (o :: rest) a w :=
  wpList_plain hgd fun _ hK => by
    obtain ⟨g, cap, w', hr, h2, h3, h4, h5⟩ := run_append_marked (P := P) w base t o.type e i z size bytes ht hi hz hsize hby hzs hsz v n c hv ad m cp news hl hnc hnews h1 hm h63 hbytes hbase
    unfold Oper.wp execOp
    simp only [ho, resolve, invoke, builtin, Sem.run_bind, Sem.run_pure, Result.andThen_ok, List.map_toArray, List.map_cons, List.map_nil, hs, hx, hr]
    exact hK _ _ (h g cap w' h2 h3 h4 h5)
end Go.Proofs.Ytgkpobajafjdeaa

/- Memory by roles: each block has a number that tells what it is for ('ρ'; 0: for nothing yet); a step that touches only blocks of some roles ('Keeps') leaves every list and object of the others as it was. Of no program. -/
namespace Go.Proofs.Ytgkpobajafjdeaa
open Go.RowKit

/-- An object of n cells, cell by cell. -/
def cellsObj (t : TypeId) (n : Nat) (f : Nat → Value) : Obj := .cells ((List.range n).map f).toArray t (0, 0)
theorem obj_cell {w : World} {B n : Nat} {t : TypeId} {f : Nat → Value} (h : w.heap[B]? = some (cellsObj t n f)) (k : Nat) (hk : k < n) : w.cell? ⟨B, k, none⟩ = some (f k) := by
  rw [cell_of_obj h k]
  simp [hk]
/-- One cell put anew. -/
def setc (f : Nat → Value) (k : Nat) (v : Value) : Nat → Value := fun j => if j = k then v else f j
theorem setc_ne {f : Nat → Value} {k j : Nat} {v : Value} (h : j ≠ k) : setc f k v j = f j := if_neg h
theorem setc_eq {f : Nat → Value} {k : Nat} {v : Value} : setc f k v k = v := if_pos rfl
theorem obj_set (t : TypeId) (n : Nat) (f : Nat → Value) (k : Nat) (v : Value) : Obj.cells (((List.range n).map f).toArray.setIfInBounds k v) t (0, 0) = cellsObj t n (setc f k v) := by
  unfold cellsObj setc
  congr 1
  apply Array.ext_getElem?
  intro j
  rw [Array.getElem?_setIfInBounds]
  simp only [List.size_toArray, List.length_map, List.length_range, List.getElem?_toArray, List.getElem?_map]
  by_cases hk : k = j
  · subst hk
    rw [if_pos rfl]
    split
    · simp [List.getElem?_range ‹_›]
    · rw [List.getElem?_eq_none (by simp; omega)]; rfl
  · rw [if_neg hk]
    by_cases hj : j < n
    · rw [List.getElem?_range hj]
      have : ¬ j = k := fun e => hk e.symm
      simp [this]
    · rw [List.getElem?_eq_none (by simp; omega)]; rfl
theorem OnlyB.obj {w w1 : World} {B n : Nat} {t : TypeId} {f : Nat → Value} (h : OnlyB w w1 B (cellsObj t n f)) (hb : B < w.heap.size) (k : Nat) (v : Value) : OnlyB w (w1.setCell ⟨B, k, none⟩ v) B (cellsObj t n (setc f k v)) := by
  have := OnlyB.set h hb k v
  rwa [obj_set] at this
theorem OnlyB.objSet {w : World} {B n : Nat} {t : TypeId} {f : Nat → Value} (h : w.heap[B]? = some (cellsObj t n f)) (k : Nat) (v : Value) : OnlyB w (w.setCell ⟨B, k, none⟩ v) B (cellsObj t n (setc f k v)) :=
  OnlyB.obj (OnlyB.refl h) (lt_of_obj h) k v

/-- A step that touches blocks of the roles R alone. -/
def Keeps (R : Nat → Prop) (w : World) (ρ : Nat → Nat) (w' : World) (ρ' : Nat → Nat) : Prop :=
  w.heap.size ≤ w'.heap.size ∧ ∀ k, k < w.heap.size → ρ' k = ρ k ∧ (¬ R (ρ k) → w'.heap[k]? = w.heap[k]?)
theorem Keeps.refl (R : Nat → Prop) (w : World) (ρ : Nat → Nat) : Keeps R w ρ w ρ := ⟨Nat.le_refl _, fun _ _ => ⟨rfl, fun _ => rfl⟩⟩
theorem Keeps.trans {R : Nat → Prop} {w w1 w2 : World} {ρ ρ1 ρ2 : Nat → Nat} (h : Keeps R w ρ w1 ρ1) (k : Keeps R w1 ρ1 w2 ρ2) : Keeps R w ρ w2 ρ2 :=
  ⟨Nat.le_trans h.1 k.1, fun j hj => by
    obtain ⟨a, b⟩ := h.2 j hj
    obtain ⟨c, d⟩ := k.2 j (Nat.lt_of_lt_of_le hj h.1)
    exact ⟨c.trans a, fun hR => (d (by rw [a]; exact hR)).trans (b hR)⟩⟩
theorem Keeps.mono {R R' : Nat → Prop} {w w' : World} {ρ ρ' : Nat → Nat} (h : Keeps R w ρ w' ρ') (hR : ∀ r, R r → R' r) : Keeps R' w ρ w' ρ' :=
  ⟨h.1, fun k hk => ⟨(h.2 k hk).1, fun hn => (h.2 k hk).2 (fun h' => hn (hR _ h'))⟩⟩
theorem Keeps.below {w w' : World} (R : Nat → Prop) (ρ : Nat → Nat) (hb : Below w.heap.size w w') : Keeps R w ρ w' ρ :=
  ⟨hb.size, fun k hk => ⟨rfl, fun _ => hb.block k hk⟩⟩
theorem Keeps.alloc (w : World) (R : Nat → Prop) (ρ : Nat → Nat) (o : Obj) : Keeps R w ρ (w.alloc o) ρ := Keeps.below R ρ ((Below.refl _ _).alloc (Nat.le_refl _) o)
theorem Keeps.only {R : Nat → Prop} {w w' : World} {B : Nat} {o : Obj} (ρ : Nat → Nat) (h : OnlyB w w' B o) (hR : R (ρ B)) : Keeps R w ρ w' ρ :=
  ⟨by rw [h.size]; exact Nat.le_refl _, fun k _ => ⟨rfl, fun hn => h.far (fun e => hn (by rw [e]; exact hR))⟩⟩
/-- A block gets a role. -/
def lab (ρ : Nat → Nat) (g r : Nat) : Nat → Nat := fun k => if k = g then r else ρ k
theorem lab_eq {ρ : Nat → Nat} {g r : Nat} : lab ρ g r g = r := if_pos rfl
theorem lab_ne {ρ : Nat → Nat} {g r k : Nat} (h : k ≠ g) : lab ρ g r k = ρ k := if_neg h
theorem Keeps.grown {R : Nat → Prop} {w w' : World} {row : Option Nat} {ρ : Nat → Nat} {g r : Nat} (hg : w.grownBy w' row) (hv : ∀ g, row = some g → ρ g = r) (hR : R r) (hat : row = some g ∨ g = w.heap.size) : Keeps R w ρ w' (lab ρ g r) := by
  refine ⟨hg.size, fun k hk => ⟨?_, fun hn => hg.block k hk (fun e => hn (by rw [hv k e.symm]; exact hR))⟩⟩
  unfold lab
  split
  · rename_i e
    subst e
    rcases hat with h | h
    · exact (hv _ h).symm
    · omega
  · rfl
/-- A block that is there, and of role 0, gets a role: nothing else turns. -/
theorem Keeps.fresh {R : Nat → Prop} {w : World} {ρ : Nat → Nat} {g r : Nat} (h : w.heap.size ≤ g) : Keeps R w ρ w (lab ρ g r) :=
  ⟨Nat.le_refl _, fun k hk => ⟨lab_ne (by omega), fun _ => rfl⟩⟩

/-- Nothing beyond the memory has a role. -/
def Free (w : World) (ρ : Nat → Nat) : Prop := ∀ k, w.heap.size ≤ k → ρ k = 0
theorem Free.le {w w' : World} {ρ : Nat → Nat} (h : Free w ρ) (hs : w.heap.size ≤ w'.heap.size) : Free w' ρ := fun k hk => h k (Nat.le_trans hs hk)
theorem Free.lab {w w' : World} {ρ : Nat → Nat} {g : Nat} (h : Free w ρ) (hs : w.heap.size ≤ w'.heap.size) (hg : g < w'.heap.size) (r : Nat) : Free w' (lab ρ g r) := fun k hk => by
  rw [lab_ne (by omega)]
  exact h k (Nat.le_trans hs hk)

/-- A list of one-cell elements that lies in a block of the role r. -/
def Lst (w : World) (base : Nat) (ρ : Nat → Nat) (r : Nat) (e : TypeId) (v : Value) (n : Nat) (c : Nat → Value) : Prop := One w base e 1 v n c ∧ ∀ g, v.ownBlock = some g → ρ g = r
theorem One.keep {R : Nat → Prop} {w w' : World} {base r n : Nat} {ρ ρ' : Nat → Nat} {e : TypeId} {v : Value} {c : Nat → Value} (h : One w base e 1 v n c) (hr0 : ∀ g, v.ownBlock = some g → ρ g = r) (k : Keeps R w ρ w' ρ') (hr : ¬ R r) : One w' base e 1 v n c :=
  h.same fun g hg => (k.2 g (h.block hg).2).2 (by rw [hr0 g hg]; exact hr)
theorem Lst.keep {R : Nat → Prop} {w w' : World} {base r n : Nat} {ρ ρ' : Nat → Nat} {e : TypeId} {v : Value} {c : Nat → Value} (h : Lst w base ρ r e v n c) (k : Keeps R w ρ w' ρ') (hr : ¬ R r) : Lst w' base ρ' r e v n c :=
  ⟨h.1.keep h.2 k hr, fun g hg => ((k.2 g (h.1.block hg).2).1).trans (h.2 g hg)⟩
/-- An object in a block of the role r. -/
def Objr (w : World) (ρ : Nat → Nat) (r B : Nat) (o : Obj) : Prop := w.heap[B]? = some o ∧ ρ B = r
theorem Objr.keep {R : Nat → Prop} {w w' : World} {r B : Nat} {ρ ρ' : Nat → Nat} {o : Obj} (h : Objr w ρ r B o) (k : Keeps R w ρ w' ρ') (hr : ¬ R r) : Objr w' ρ' r B o :=
  ⟨((k.2 B (lt_of_obj h.1)).2 (by rw [h.2]; exact hr)).trans h.1, ((k.2 B (lt_of_obj h.1)).1).trans h.2⟩

/-- The cells of a list of values. -/
def lst (xs : List Value) (k : Nat) : Value := (xs[k]?).getD (.int .i64 0)
theorem lst_at {xs : List Value} {k : Nat} {x : Value} (h : xs[k]? = some x) : lst xs k = x := by unfold lst; rw [h]; rfl
theorem range_lst (xs : List Value) : (List.range xs.length).map (lst xs) = xs := by
  apply List.ext_getElem?
  intro k
  by_cases hk : k < xs.length
  · rw [List.getElem?_map, List.getElem?_range hk, List.getElem?_eq_getElem hk]
    simp [lst, List.getElem?_eq_getElem hk]
  · rw [List.getElem?_eq_none (by simp; omega), List.getElem?_eq_none (by omega)]
theorem One.congr {w : World} {base sz n : Nat} {e : TypeId} {v : Value} {c c' : Nat → Value} (h : One w base e sz v n c) (hc : ∀ k, k < n * sz → c k = c' k) : One w base e sz v n c' := by
  rcases h with h | ⟨g, cap, cur, h1, h2, h3, h4, h5, h6, h7⟩
  · exact .inl h
  · exact .inr ⟨g, cap, cur, h1, h2, h3, h4, h5, h6, fun k hk => by rw [← hc k hk]; exact h7 k hk⟩
theorem One.row {w : World} {base n : Nat} {e : TypeId} {v : Value} {xs : List Value} (h : One w base e 1 v n (lst xs)) (hn : xs.length = n) : w.ownsRow base e 1 v n xs := by
  have := h.own
  rw [Nat.mul_one, ← hn, range_lst] at this
  rwa [hn] at this
theorem One.ofRow {w : World} {base n : Nat} {e : TypeId} {v : Value} {xs : List Value} (h : w.ownsRow base e 1 v n xs) : One w base e 1 v n (lst xs) := by
  refine One.of ?_
  have e1 : n = xs.length := by have := h.1; omega
  rw [Nat.mul_one, e1, range_lst, ← e1]
  exact h
theorem Lst.ofRow {w : World} {base n r : Nat} {ρ : Nat → Nat} {e : TypeId} {v : Value} {xs : List Value} (h : w.ownsRow base e 1 v n xs) (hr : ∀ g, v.ownBlock = some g → ρ g = r) : Lst w base ρ r e v n (lst xs) := ⟨One.ofRow h, hr⟩
theorem Lst.row {w : World} {base n r : Nat} {ρ : Nat → Nat} {e : TypeId} {v : Value} {xs : List Value} (h : Lst w base ρ r e v n (lst xs)) (hn : xs.length = n) : w.ownsRow base e 1 v n xs := h.1.row hn
/-- One cell of a list put anew. -/
theorem One.put {w : World} {base n g cap k : Nat} {e : TypeId} {c : Nat → Value} (h : One w base e 1 (.slice (some ⟨g, 0, none⟩) n cap) n c) (v : Value) :
    One (w.setCell ⟨g, k, none⟩ v) base e 1 (.slice (some ⟨g, 0, none⟩) n cap) n (setc c k v) ∧ ∃ o, OnlyB w (w.setCell ⟨g, k, none⟩ v) g o := by
  rcases h with ⟨h, _⟩ | ⟨g', cap', cur, h1, h2, h3, h4, h5, h6, h7⟩
  · cases h
  · injection h1 with h1 _ h9
    injection h1 with h1
    injection h1 with h1
    subst h1 h9
    have ho := OnlyB.set (OnlyB.refl h3) (lt_of_obj h3) k v
    refine ⟨.inr ⟨g, cap, _, rfl, h2, ho.at_ (lt_of_obj h3), h4, h5, by simpa using h6, fun j hj => ?_⟩, _, ho⟩
    rw [Array.getElem?_setIfInBounds]
    by_cases hjk : k = j
    · subst hjk
      rw [if_pos rfl, if_pos (by rw [h6]; omega), setc_eq]
    · rw [if_neg hjk, setc_ne (fun e => hjk e.symm)]
      exact h7 j hj
theorem One.free {w : World} {base n g m cap : Nat} {e : TypeId} {c : Nat → Value} (h : One w base e 1 (.slice (some ⟨g, 0, none⟩) m cap) n c) (k : Nat) : w.frozen? ⟨g, k, none⟩ = false := by
  rcases h with ⟨h, _⟩ | ⟨g', cap', cur, h1, h2, h3, h4, h5, h6, h7⟩
  · cases h
  · injection h1 with h1 _ _
    injection h1 with h1
    injection h1 with h1
    subst h1
    exact free_of_obj h3 k
theorem One.len {w : World} {base n : Nat} {e : TypeId} {v : Value} {c : Nat → Value} (h : One w base e 1 v n c) : ∃ A cap, v = .slice A n cap := by
  rcases h with ⟨rfl, rfl⟩ | ⟨g, cap, cur, k1, _⟩
  · exact ⟨_, _, rfl⟩
  · exact ⟨_, _, k1⟩
theorem One.form {w : World} {base n : Nat} {e : TypeId} {v : Value} {c : Nat → Value} (h : One w base e 1 v n c) (hn : 0 < n) : ∃ g cap, v = .slice (some ⟨g, 0, none⟩) n cap := by
  rcases h with ⟨_, rfl⟩ | ⟨g, cap, cur, k1, _⟩
  · omega
  · exact ⟨_, _, k1⟩
theorem One.len_eq {w : World} {b n : Nat} {e : TypeId} {A : Option Addr} {m cap : Nat} {c : Nat → Value} (h : One w b e 1 (.slice A m cap) n c) : n = m := by
  obtain ⟨_, _, e⟩ := h.len
  injection e with _ e _
  exact e.symm
theorem One.get {w : World} {b n : Nat} {e : TypeId} {A : Option Addr} {m cap : Nat} {c : Nat → Value} (h : One w b e 1 (.slice A m cap) n c) {k : Nat} (hk : k < n) : ∃ g, A = some ⟨g, 0, none⟩ ∧ w.cell? ⟨g, k, none⟩ = some (c k) := by
  have h' := h
  rcases h with ⟨k1, rfl⟩ | ⟨g, cap, cur, k1, _⟩
  · omega
  · injection k1 with k1 _ _
    subst k1
    exact ⟨g, rfl, h'.cell rfl (by omega)⟩
end Go.Proofs.Ytgkpobajafjdeaa

/- A region that draws its order, whose last operations (from number n on) write a cell that the region loads: a load may be taken first if none of the last operations can come up ahead of it ('ps': the operations that wait for it). S is to be shown behind the operations below n alone. Of no program. -/
namespace Go.Proofs.Ytgkpobajafjdeaa
open Go.RowKit

section
variable {P : Program} {ops : Array Oper} {Q : Exit → Act → World → Prop} {md : Region.Mode} {S : World → Prop} {n : Nat}

def wpAnyS (P : Program) (md : Region.Mode) (ops : Array Oper) (Q : Exit → Act → World → Prop) (S : World → Prop) (n : Nat) : Nat → Array Bool → Act → World → Prop
  | 0, listed, a, w => Region.ready md ops listed = [] ∧ Q .normal a w
  | fuel + 1, listed, a, w =>
    (Region.ready md ops listed = [] → Q .normal a w) ∧
    ∀ i ∈ Region.ready md ops listed, wpOp P ops Q i (fun a' w' => (i < n → S w') ∧ wpAnyS P md ops Q S n fuel (listed.setIfInBounds i true) a' w') a w
theorem wpAny_of_S : ∀ (fuel : Nat) (listed : Array Bool) (a : Act) (w : World), wpAnyS P md ops Q S n fuel listed a w → wpAny P md ops Q fuel listed a w
  | 0, _, _, _, h => h
  | fuel + 1, _, _, _, h => ⟨h.1, fun i hi => wpOp_mono (fun a' w' h' => wpAny_of_S fuel _ a' w' h'.2) (h.2 i hi)⟩
/-- Each of ps but i waits for one of ps; all from n on are of ps. -/
def waitB (md : Region.Mode) (ops : Array Oper) (n i : Nat) (ps : List Nat) : Bool :=
  (ps.all fun j => j == i || ((ops[j]?).map fun o => o.after.any fun e => Region.binds md e && ps.contains e.on).getD false) && (List.range ops.size).all fun j => decide (j < n) || ps.contains j
theorem waitB_spec {i : Nat} {ps : List Nat} {listed : Array Bool} (h : waitB md ops n i ps = true) (hun : ∀ j ∈ ps, listed.getD j true = false) {j : Nat} (hj : j ∈ Region.ready md ops listed) (hji : j ≠ i) : j ∉ ps ∧ j < n := by
  unfold waitB at h
  rw [Bool.and_eq_true] at h
  obtain ⟨_, oj, hoj, hall⟩ := mem_ready.1 hj
  have hp : j ∉ ps := fun hm => by
    have h1 := List.all_eq_true.1 h.1 j hm
    rw [hoj] at h1
    simp only [Bool.or_eq_true, beq_iff_eq, hji, false_or, Option.map_some, Option.getD_some] at h1
    obtain ⟨e, he, h2⟩ := Array.any_eq_true'.1 h1
    rw [Bool.and_eq_true] at h2
    have h3 := hall e he h2.1
    have h4 := hun e.on (by simpa using h2.2)
    rw [getD_both h4] at h3
    cases h3
  refine ⟨hp, ?_⟩
  have h1 := List.all_eq_true.1 h.2 j (List.mem_range.2 (Array.getElem?_eq_some_iff.1 hoj).1)
  simp only [Bool.or_eq_true, decide_eq_true_eq] at h1
  rcases h1 with h1 | h1
  · exact h1
  · exact absurd (by simpa using h1) hp
theorem wpAnyS_first {i : Nat} {oi : Oper} {v : Value} {ps : List Nat} (hi : ops[i]? = some oi) (hsel : ∀ (j : Nat) (o : Oper) cs b, ops[j]? = some o → o.op ≠ .select cs b)
    (hQ : ∀ c a w, Q (.panic c) (a.put oi.dst v) w → Q (.panic c) a w) (hps : waitB md ops n i ps = true) :
    ∀ (fuel : Nat) (listed : Array Bool) (a : Act) (w : World),
      (∀ j oj, ops[j]? = some oj → j ≠ i → listed.getD j true = false → (∀ e ∈ oj.after, Region.binds md e = true → e.on ≠ i) → oi.apart ops oj = true) →
      i ∈ Region.ready md ops listed → (∀ j ∈ ps, listed.getD j true = false) → YieldsIf P ops S oi v a → S w →
      wpAnyS P md ops Q S n fuel (listed.setIfInBounds i true) (a.put oi.dst v) w → wpAnyS P md ops Q S n (fuel + 1) listed a w := by
  intro fuel
  induction fuel with
  | zero =>
    intro listed a w _ hr _ hy hS H
    refine ⟨fun h => (by rw [h] at hr; cases hr), fun j hj => ?_⟩
    by_cases hji : j = i
    · subst hji; exact hy.wpOp hi hS ⟨fun _ => hS, H⟩
    · have := ready_mono hj hji
      rw [H.1] at this
      cases this
  | succ fuel ih =>
    intro listed a w hfree hr hun0 hy hS H
    refine ⟨fun h => (by rw [h] at hr; cases hr), fun j hj => ?_⟩
    by_cases hji : j = i
    · subst hji; exact hy.wpOp hi hS ⟨fun _ => hS, H⟩
    · obtain ⟨hjp, hjn⟩ := waitB_spec hps hun0 hj hji
      have h1 := H.2 j (ready_mono hj hji)
      obtain ⟨hjun, oj, hoj, hall⟩ := mem_ready.1 hj
      have hnot : ∀ e ∈ oj.after, Region.binds md e = true → e.on ≠ i := fun e he hb heq => by
        have h1 := hall e he hb
        have h0 := (mem_ready.1 hr).1
        rw [heq, getD_both h0] at h1
        cases h1
      have h2 := wpOp_putIf hoj (hfree j oj hoj hji hjun hnot) (fun cs b => hsel i oi cs b hi) (fun cs b => hsel j oj cs b hoj) hQ hy h1
      have hfree' : ∀ k ok, ops[k]? = some ok → k ≠ i → (listed.setIfInBounds j true).getD k true = false →
          (∀ e ∈ ok.after, Region.binds md e = true → e.on ≠ i) → oi.apart ops ok = true := fun k ok hk hki hun hno => by
        refine hfree k ok hk hki ?_ hno
        by_cases hjk : j = k
        · subst hjk; exact hjun
        · rw [getD_set_ne true hjk] at hun; exact hun
      refine wpOp_mono (fun a' w' h3 => ⟨fun hn => h3.2.1 hn, ih (listed.setIfInBounds j true) a' w' hfree' (ready_mono hr (Ne.symm hji)) (fun k hk => ?_) h3.1 (h3.2.1 hjn) ?_⟩) h2
      · rw [getD_set_ne true (fun e => hjp (by rw [e]; exact hk))]
        exact hun0 k hk
      · rw [Array.setIfInBounds_comm _ _ hji]
        exact h3.2.2
theorem wpAnyS_take (ps : List Nat) {i : Nat} {oi : Oper} {v : Value} {fuel : Nat} {listed : Array Bool} {a : Act} {w : World} (hi : ops[i]? = some oi)
    (hs : Region.noSelect ops = true) (hf : Region.free md ops listed i = true) (hr : (Region.ready md ops listed).contains i = true) (hps : waitB md ops n i ps = true) (hun : (ps.all fun j => !listed.getD j true) = true)
    (hQ : ∀ c a w, Q (.panic c) (a.put oi.dst v) w → Q (.panic c) a w) (hy : YieldsIf P ops S oi v a) (hS : S w)
    (h : wpAnyS P md ops Q S n fuel (listed.setIfInBounds i true) (a.put oi.dst v) w) : wpAnyS P md ops Q S n (fuel + 1) listed a w :=
  wpAnyS_first hi (Region.noSelect_spec hs) hQ hps fuel listed a w (Region.free_spec hi hf) (by simpa using hr) (fun j hj => by have := List.all_eq_true.1 hun j hj; simpa using this) hy hS h
/-- The one operation that may come up. -/
theorem wpAnyS_one {k : Nat} {o : Oper} {fuel : Nat} {listed : Array Bool} {a : Act} {w : World} (ho : ops[k]? = some o) (hr : Region.ready md ops listed = [k]) (hw : Region.wanted o (yielded ops a.tmps) = true)
    (h : o.wp P a w (fun a' w' => (k < n → S w') ∧ wpAnyS P md ops Q S n fuel (listed.setIfInBounds k true) a' w') Q) : wpAnyS P md ops Q S n (fuel + 1) listed a w := by
  refine ⟨fun h0 => (by rw [hr] at h0; cases h0), fun i hi => ?_⟩
  rw [hr] at hi
  obtain rfl : i = k := by simpa using hi
  unfold wpOp
  simp only [ho, hw, if_true]
  exact .inl h
/-- From here on the operations come in the order of the text, and S is no more wanted. -/
theorem wpAnyS_seq : ∀ (l : List Oper) (k : Nat) (listed : Array Bool) (a : Act) (w : World), n ≤ k → (∀ j, l[j]? = ops[k + j]?) → Region.seqB md ops l.length k listed = true → wpList P ops Q l a w → wpAnyS P md ops Q S n l.length listed a w
  | [], _, _, _, _, _, _, hB, h => ⟨by simpa [Region.seqB] using hB, h⟩
  | o :: l, k, listed, a, w, hn, hl, hB, h => by
    have h0 : ops[k]? = some o := by simpa using (hl 0).symm
    simp only [List.length_cons, Region.seqB, Bool.and_eq_true, decide_eq_true_eq] at hB
    refine ⟨fun h1 => (by rw [hB.1] at h1; cases h1), fun i hi => ?_⟩
    rw [hB.1] at hi
    have hik : i = k := by simpa using hi
    subst hik
    have hw : wpOp P ops Q i (wpList P ops Q l) a w := by unfold wpOp; simp only [h0]; exact h
    exact wpOp_mono (fun a' w' h' => ⟨fun hlt => by omega, wpAnyS_seq l (i + 1) _ a' w' (by omega) (fun j => by have := hl (j + 1); simpa [Nat.add_assoc, Nat.add_comm 1 j] using this) hB.2 h'⟩) hw
theorem wpAnyS_tail (k : Nat) {fuel : Nat} {listed : Array Bool} {a : Act} {w : World} (hn : n ≤ k) (hf : fuel = (ops.toList.drop k).length) (hB : Region.seqB md ops (ops.toList.drop k).length k listed = true) (h : wpList P ops Q (ops.toList.drop k) a w) : wpAnyS P md ops Q S n fuel listed a w :=
  hf ▸ wpAnyS_seq (ops.toList.drop k) k listed a w hn (fun j => by simp) hB h
/-- The beginning. -/
theorem wp_region_S {id : Nat} {a : Act} {w : World} (n : Nat) (S : World → Prop) (hm : P.follows .mixedOrders = true) (h : wpAnyS P .any ops Q S n ops.size (Array.replicate ops.size false) a w.drew) : (Code.region id ops true).wp P Q a w :=
  wp_region_any hm (wpAny_of_S _ _ _ _ h)
end
end Go.Proofs.Ytgkpobajafjdeaa

/- The disk's mathematics: names in order, files with their units, name changes; the calls as functions. Of no program. -/
namespace Go.Proofs.Ytgkpobajafjdeaa
open Go.Maps

abbrev BS := List UInt8
/-- Names, in order, each with the number of its file. -/
abbrev NM := List (BS × Nat)

theorem before_iff : ∀ (a b : BS), bytesBefore a b = true ↔ a < b
  | [], [] => by simp [bytesBefore]
  | [], y :: s => by simp [bytesBefore]
  | x :: r, [] => by simp [bytesBefore]
  | x :: r, y :: s => by
    rw [List.cons_lt_cons_iff, ← before_iff r s]
    simp [bytesBefore]
theorem before_eq (a b : BS) : bytesBefore a b = decide (a < b) := by
  by_cases h : a < b
  · rw [decide_eq_true h, before_iff]; exact h
  · rw [decide_eq_false h]
    cases hb : bytesBefore a b with
    | false => rfl
    | true => exact absurd ((before_iff a b).1 hb) h
theorem bs_irrefl (a : BS) : ¬ a < a := List.lt_irrefl a
theorem bs_trans {a b c : BS} (h : a < b) (k : b < c) : a < c := List.lt_trans h k
theorem bs_total {a b : BS} (h : ¬ a < b) (hne : a ≠ b) : b < a := Decidable.byContradiction fun k => hne (List.le_antisymm k h)
/-- In order, each once. -/
def NM.Ok (l : NM) : Prop := l.Pairwise (fun p q => p.1 < q.1)
def NM.ins (x : BS × Nat) : NM → NM
  | [] => [x]
  | y :: r => if bytesBefore x.1 y.1 then x :: y :: r else y :: NM.ins x r
def NM.del (l : NM) (n : BS) : NM := l.filter (fun p => !(p.1 == n))
def NM.put (l : NM) (n : BS) (f : Nat) : NM := NM.ins (n, f) (NM.del l n)
def NM.get (l : NM) (n : BS) : Option Nat := (l.find? (fun p => p.1 == n)).map (·.2)
theorem NM.mem_ins {x p : BS × Nat} : ∀ {l : NM}, p ∈ NM.ins x l ↔ p = x ∨ p ∈ l
  | [] => by simp [NM.ins]
  | y :: r => by
    unfold NM.ins
    split
    · simp
    · simp only [List.mem_cons, NM.mem_ins (l := r)]
      constructor
      · rintro (h | h | h)
        · exact .inr (.inl h)
        · exact .inl h
        · exact .inr (.inr h)
      · rintro (h | h | h)
        · exact .inr (.inl h)
        · exact .inl h
        · exact .inr (.inr h)
theorem NM.mem_del {l : NM} {n : BS} {p : BS × Nat} : p ∈ NM.del l n ↔ p ∈ l ∧ p.1 ≠ n := by simp [NM.del]
theorem NM.mem_put {l : NM} {n : BS} {f : Nat} {p : BS × Nat} : p ∈ NM.put l n f ↔ p = (n, f) ∨ (p ∈ l ∧ p.1 ≠ n) := by
  unfold NM.put
  rw [NM.mem_ins, NM.mem_del]
theorem NM.Ok.del {l : NM} (h : NM.Ok l) (n : BS) : NM.Ok (NM.del l n) := List.Pairwise.filter _ h
theorem NM.Ok.ins {x : BS × Nat} : ∀ {l : NM}, NM.Ok l → (∀ p ∈ l, p.1 ≠ x.1) → NM.Ok (NM.ins x l)
  | [], _, _ => by simp [NM.ins, NM.Ok]
  | y :: r, h, hne => by
    unfold NM.ins
    unfold NM.Ok at h
    rw [List.pairwise_cons] at h
    split
    · rename_i hb
      have hb := (before_iff _ _).1 hb
      unfold NM.Ok
      rw [List.pairwise_cons, List.pairwise_cons]
      refine ⟨fun p hp => ?_, h⟩
      rcases List.mem_cons.1 hp with rfl | hp
      · exact hb
      · exact bs_trans hb (h.1 p hp)
    · rename_i hb
      have hb : ¬ x.1 < y.1 := fun k => hb ((before_iff _ _).2 k)
      have hyx : y.1 < x.1 := bs_total hb (fun e => hne y (by simp) e.symm)
      unfold NM.Ok
      rw [List.pairwise_cons]
      refine ⟨fun p hp => ?_, NM.Ok.ins h.2 (fun p hp => hne p (by simp [hp]))⟩
      rcases NM.mem_ins.1 hp with rfl | hp
      · exact hyx
      · exact h.1 p hp
theorem NM.Ok.put {l : NM} (h : NM.Ok l) (n : BS) (f : Nat) : NM.Ok (NM.put l n f) := NM.Ok.ins (h.del n) (fun _ hp => (NM.mem_del.1 hp).2)
theorem NM.Ok.one {l : NM} (h : NM.Ok l) {p q : BS × Nat} (hp : p ∈ l) (hq : q ∈ l) (e : p.1 = q.1) : p = q := by
  induction l with
  | nil => cases hp
  | cons y r ih =>
    unfold NM.Ok at h
    rw [List.pairwise_cons] at h
    rcases List.mem_cons.1 hp with e1 | h1 <;> rcases List.mem_cons.1 hq with e2 | h2
    · rw [e1, e2]
    · exact absurd (h.1 q h2) (by rw [← e1, e]; exact bs_irrefl _)
    · exact absurd (h.1 p h1) (by rw [← e2, ← e]; exact bs_irrefl _)
    · exact ih h.2 h1 h2
theorem NM.get_mem {l : NM} {n : BS} {f : Nat} (h : NM.get l n = some f) : (n, f) ∈ l := by
  unfold NM.get at h
  cases hf : l.find? (fun p => p.1 == n) with
  | none => rw [hf] at h; cases h
  | some p =>
    rw [hf] at h
    have h1 := List.mem_of_find?_eq_some hf
    have h2 := List.find?_some hf
    simp at h h2
    obtain ⟨a, b⟩ := p
    simp at h h2
    subst h h2
    exact h1
theorem NM.get_none {l : NM} {n : BS} : NM.get l n = none ↔ ∀ p ∈ l, p.1 ≠ n := by
  unfold NM.get
  simp
theorem NM.get_of {l : NM} (h : NM.Ok l) {n : BS} {f : Nat} (hm : (n, f) ∈ l) : NM.get l n = some f := by
  cases hg : NM.get l n with
  | none => exact absurd rfl (NM.get_none.1 hg _ hm)
  | some g =>
    have := h.one (NM.get_mem hg) hm rfl
    simp at this
    rw [this]
theorem NM.get_put_same {l : NM} (h : NM.Ok l) (n : BS) (f : Nat) : NM.get (NM.put l n f) n = some f := NM.get_of (h.put n f) (NM.mem_put.2 (.inl rfl))
theorem NM.get_put_other {l : NM} (h : NM.Ok l) {n m : BS} (f : Nat) (hne : m ≠ n) : NM.get (NM.put l n f) m = NM.get l m := by
  cases hg : NM.get l m with
  | none =>
    rw [NM.get_none] at hg ⊢
    intro p hp
    rcases NM.mem_put.1 hp with rfl | ⟨hp, _⟩
    · exact fun e => hne e.symm
    · exact hg p hp
  | some g => exact NM.get_of (h.put n f) (NM.mem_put.2 (.inr ⟨NM.get_mem hg, hne⟩))
theorem NM.get_del_same {l : NM} (n : BS) : NM.get (NM.del l n) n = none := by
  rw [NM.get_none]
  intro p hp
  exact (NM.mem_del.1 hp).2
theorem NM.get_del_other {l : NM} (h : NM.Ok l) {n m : BS} (hne : m ≠ n) : NM.get (NM.del l n) m = NM.get l m := by
  cases hg : NM.get l m with
  | none =>
    rw [NM.get_none] at hg ⊢
    intro p hp
    exact hg p (NM.mem_del.1 hp).1
  | some g => exact NM.get_of (h.del n) (NM.mem_del.2 ⟨NM.get_mem hg, hne⟩)
/-- Two lists of names that answer alike are one. -/
theorem NM.ext {l m : NM} (h : NM.Ok l) (k : NM.Ok m) (he : ∀ n, NM.get l n = NM.get m n) : l = m := by
  have hmem : ∀ p : BS × Nat, p ∈ l ↔ p ∈ m := fun p =>
    ⟨fun hp => NM.get_mem (by rw [← he]; exact NM.get_of h hp), fun hp => NM.get_mem (by rw [he]; exact NM.get_of k hp)⟩
  have nd : ∀ {l : NM}, NM.Ok l → l.Nodup := fun h => List.Pairwise.imp (R := fun p q : BS × Nat => p.1 < q.1) (fun {a b} (hlt : a.1 < b.1) (e : a = b) => bs_irrefl a.1 (by rw [← e] at hlt; exact hlt)) h
  have hp : l.Perm m := (List.perm_ext_iff_of_nodup (nd h) (nd k)).2 (fun a => hmem a)
  exact List.Perm.eq_of_pairwise (fun a b _ _ h1 h2 => absurd (bs_trans h1 h2) (bs_irrefl _)) h k hp

/-! ## The datum of a map -/
def toE (fb : Nat → Nat) (l : NM) : List (Lit × DataW Unit) := l.map (fun p => (.string p.1, .lit (.int .i64 (fb p.2 : Nat))))
def toD (fb : Nat → Nat) (l : NM) : DataW Unit := .map (toE fb l)
theorem toE_ins (fb : Nat → Nat) (x : BS × Nat) : ∀ l : NM, toE fb (NM.ins x l) = DataW.insert (.string x.1, .lit (.int .i64 (fb x.2 : Nat))) (toE fb l)
  | [] => rfl
  | y :: r => by
    by_cases hb : bytesBefore x.1 y.1 = true
    · have e1 : NM.ins x (y :: r) = x :: y :: r := if_pos hb
      have e2 : DataW.insert (.string x.1, .lit (.int .i64 (fb x.2 : Nat))) (toE fb (y :: r)) = (.string x.1, .lit (.int .i64 (fb x.2 : Nat))) :: toE fb (y :: r) := if_pos hb
      rw [e1, e2]; rfl
    · have e1 : NM.ins x (y :: r) = y :: NM.ins x r := if_neg hb
      have e2 : DataW.insert (.string x.1, .lit (.int .i64 (fb x.2 : Nat))) (toE fb (y :: r)) = (.string y.1, .lit (.int .i64 (fb y.2 : Nat))) :: DataW.insert (.string x.1, .lit (.int .i64 (fb x.2 : Nat))) (toE fb r) := if_neg hb
      rw [e1, e2, ← toE_ins fb x r]; rfl
theorem toE_del (fb : Nat → Nat) (l : NM) (n : BS) : toE fb (NM.del l n) = (toE fb l).filter (fun p => !p.1.sameKey (.string n)) := by
  unfold toE NM.del
  rw [List.filter_map]
  rfl
theorem toD_put (fb : Nat → Nat) (l : NM) (n : BS) (f : Nat) : (toD fb l).put (.string n) (.lit (.int .i64 (fb f : Nat))) = toD fb (NM.put l n f) := by
  unfold toD NM.put
  rw [toE_ins, toE_del]
  rfl
theorem toD_del (fb : Nat → Nat) (l : NM) (n : BS) : (toD fb l).del (.string n) = toD fb (NM.del l n) := by
  unfold toD
  rw [toE_del]
  rfl
theorem toD_find (fb : Nat → Nat) (n : BS) : ∀ l : NM, (toE fb l).find? (fun p => p.1.sameKey (.string n)) = (l.find? (fun p => p.1 == n)).map (fun p => (.string p.1, .lit (.int .i64 (fb p.2 : Nat))))
  | [] => rfl
  | y :: r => by
    simp only [toE, List.map_cons, List.find?_cons, Lit.sameKey]
    cases y.1 == n with
    | true => rfl
    | false => exact toD_find fb n r
theorem toD_at (fb : Nat → Nat) (l : NM) (n : BS) : (toD fb l).atKey (.string n) .nil = match NM.get l n with | none => .nil | some f => .lit (.int .i64 (fb f : Nat)) := by
  unfold toD DataW.atKey NM.get
  simp only [toD_find]
  cases l.find? (fun p => p.1 == n) <;> rfl
theorem toD_has (fb : Nat → Nat) (l : NM) (n : BS) : Maps.has (toD fb l) (.string n) = (NM.get l n).isSome := by
  unfold toD Maps.has NM.get toE
  simp only [List.any_map, Option.isSome_map, List.isSome_find?]
  rfl
theorem toD_size (fb : Nat → Nat) (l : NM) : Maps.size (toD fb l) = l.length := by simp [toD, Maps.size, toE]
theorem toD_congr {fb fb' : Nat → Nat} {l : NM} (h : ∀ p ∈ l, fb p.2 = fb' p.2) : toD fb l = toD fb' l := by
  unfold toD toE
  congr 1
  refine List.map_congr_left fun p hp => ?_
  rw [h p hp]
end Go.Proofs.Ytgkpobajafjdeaa

/- The disk's mathematics: files, changes, the calls. Of no program. -/
namespace Go.Proofs.Ytgkpobajafjdeaa

/-- A change of a file that is not safe. -/
inductive Un where
  | app (b : UInt8)
  | cut (n : Nat)
def Un.on (l : BS) : Un → BS
  | .app b => l ++ [b]
  | .cut n => l.take n
def replay (l : BS) (us : List Un) : BS := us.foldl Un.on l
/-- A file: what is safe, the units behind it, what is seen (in a disk that is Ok: the safe bytes with all units carried out). -/
structure FM where
  kept : BS
  units : List Un
  seen : BS
/-- A name change. -/
inductive Ch where
  | makes (n : BS) (f : Nat)
  | renames (n to : BS)
  | removes (n : BS)
def Ch.on (l : NM) : Ch → NM
  | .makes n f => l.put n f
  | .renames n to => match l.get n with | some f => (l.put to f).del n | none => l
  | .removes n => l.del n
def play (l : NM) (cs : List Ch) : NM := cs.foldl Ch.on l
structure Pl where
  off : Int
  full : Int
  to : Int
structure DM where
  room : Int
  off : Bool
  files : List FM
  names : NM
  sure : NM
  ch : List Ch
  strokes : Nat
  count : Nat
  plan : Pl
def DM.file (d : DM) (f : Nat) : FM := (d.files[f]?).getD ⟨[], [], []⟩
def fairC (c : UInt8) : Bool := (97 ≤ c.toNat && c.toNat ≤ 122) || (48 ≤ c.toNat && c.toNat ≤ 57) || c.toNat == 46 || c.toNat == 45 || c.toNat == 95
def fairB (n : BS) : Bool := n.all fairC && (decide (1 ≤ n.length) && decide (n.length ≤ 64))
def DM.new (room : Int) : DM := ⟨room, false, [], [], [], [], 0, 0, ⟨0, 0, 0⟩⟩
/-- The error that find tells; 0: there is such a file. -/
def DM.err (d : DM) (n : BS) : Int := if d.off then 45 else if fairB n then (match d.names.get n with | some _ => 0 | none => 42) else 41
def DM.stroke (d : DM) : DM := { d with strokes := d.strokes + 1, count := d.count + 1, off := decide (((d.count + 1 : Nat) : Int) = d.plan.off) }
def toldN (off : Bool) : Int := if off then 45 else 0
def DM.used (d : DM) : Nat := (d.names.map fun p => (d.file p.2).seen.length).sum
def DM.isFull (d : DM) : Bool := decide (d.plan.full ≤ (d.count : Int)) && decide ((d.count : Int) ≤ d.plan.to) && decide (0 < d.plan.full)
def DM.change (d : DM) (c : Ch) : DM := { d with ch := d.ch ++ [c], names := Ch.on d.names c }
def DM.setF (d : DM) (f : Nat) (x : FM) : DM := { d with files := d.files.set f x }
def DM.addTo (d : DM) (f : Nat) (b : BS) : DM := d.setF f ⟨(d.file f).kept, (d.file f).units ++ b.map Un.app, (d.file f).seen ++ b⟩
def DM.make (d : DM) (n : BS) : DM := DM.change { d with files := d.files ++ [⟨[], [], []⟩] } (.makes n d.files.length)
/-- No room for so many bytes, at this stroke. -/
def DM.no (d : DM) (k : Nat) : Bool := d.isFull || decide ((k : Int) > d.room - d.used)
def DM.append (d : DM) (n : BS) (b : BS) : DM × Int :=
  if d.err n = 45 then (d, 45) else if d.err n = 41 then (d, 41) else
  match d.names.get n with
  | some f => if d.stroke.no b.length then (d.stroke, if d.stroke.off then 45 else 44) else (d.stroke.addTo f b, toldN d.stroke.off)
  | none => if 64 ≤ d.names.length then (d, 41) else if d.stroke.no b.length then (d.stroke, if d.stroke.off then 45 else 44) else ((d.stroke.make n).addTo d.files.length b, toldN d.stroke.off)
def DM.cut (d : DM) (n : BS) (k : Int) : DM × Int :=
  match d.err n, d.names.get n with
  | 0, some f => if k < 0 ∨ ((d.file f).seen.length : Int) < k then (d, 43) else
      (if k < ((d.file f).seen.length : Int) then d.stroke.setF f ⟨(d.file f).kept, (d.file f).units ++ [.cut k.toNat], (d.file f).seen.take k.toNat⟩ else d.stroke, toldN d.stroke.off)
  | e, _ => (d, e)
def DM.sync (d : DM) (n : BS) : DM × Int :=
  match d.err n, d.names.get n with
  | 0, some f => (if d.stroke.off then d.stroke else d.stroke.setF f ⟨(d.file f).seen, [], (d.file f).seen⟩, toldN d.stroke.off)
  | e, _ => (d, e)
def DM.syncNames (d : DM) : DM × Int :=
  if d.off then (d, 45) else (if d.stroke.off then d.stroke else { d.stroke with sure := play d.sure d.ch, ch := [] }, toldN d.stroke.off)
def DM.rename (d : DM) (n to : BS) : DM × Int :=
  if d.err n = 45 then (d, 45) else if d.err n = 41 then (d, 41) else if fairB to = false then (d, 41) else if d.err n = 0 then
    (if n = to then d.stroke else d.stroke.change (.renames n to), toldN d.stroke.off) else (d, d.err n)
def DM.remove (d : DM) (n : BS) : DM × Int :=
  if d.err n = 0 then (d.stroke.change (.removes n), toldN d.stroke.off) else (d, d.err n)
def DM.setPlan (d : DM) (p : Pl) : DM := if d.off then d else { d with plan := p, count := 0 }
/-- The next pick, of so many and one. -/
def pickN (ps : List Int) (n : Nat) : Nat := match ps with | [] => 0 | p :: _ => (p % ((n : Int) + 1)).toNat
def FM.left (f : FM) (k : Nat) : BS := replay f.kept (f.units.take k)
def crashL (file : Nat → FM) : NM → List Int → List (BS × BS)
  | [], _ => []
  | (n, f) :: r, ps => (n, (file f).left (pickN ps (file f).units.length)) :: crashL file r ps.tail
def DM.crash (d : DM) (ps : List Int) : List (BS × BS) := crashL d.file (play d.sure (d.ch.take (pickN ps d.ch.length))) ps.tail
end Go.Proofs.Ytgkpobajafjdeaa

/- A map from names to files, in memory: what its operations do. -/
namespace Go.Proofs.Ytgkpobajafjdeaa
open Go.RowKit Go.Maps

def str (n : BS) : ByteArray := ⟨n.toArray⟩
theorem str_list (s : ByteArray) : str s.data.toList = s := by cases s; simp [str]
theorem list_str (n : BS) : (str n).data.toList = n := by simp [str]
theorem keyS : Keyed Try.prog 9 := string_keyed Try.underlying9
theorem zeroF (w : World) : (zeroValue 72).run Try.prog w = .ok (.pointer none) w := by kernel_rfl
/-- How an element reads: by its file's block. -/
def ptrElem (v : Value) : Option (DataW Unit × List MemPlace) :=
  match v with
  | .pointer none => some (.nil, [])
  | .pointer (some a) => if a.off = 0 ∧ a.spot = none then some (.lit (.int .i64 (a.block : Nat)), []) else none
  | _ => none
theorem ptrElem_inv {v : Value} {y : DataW Unit × List MemPlace} (h : ptrElem v = some y) : (v = .pointer none ∧ y.1 = .nil) ∨ ∃ b : Nat, v = .pointer (some ⟨b, 0, none⟩) ∧ y.1 = .lit (.int .i64 (b : Nat)) := by
  unfold ptrElem at h
  split at h
  · cases h; exact .inl ⟨rfl, rfl⟩
  · rename_i a
    split at h
    · rename_i ha
      cases h
      obtain ⟨b, o, s⟩ := a
      obtain ⟨rfl, rfl⟩ := ha
      exact .inr ⟨b, rfl, rfl⟩
    · cases h
  · cases h
theorem ptrElem_mk (b : Nat) : ptrElem (.pointer (some ⟨b, 0, none⟩)) = some (.lit (.int .i64 (b : Nat)), []) := by simp [ptrElem]
/-- Block b is the map of these names. -/
def MapAt (w : World) (b : Nat) (fb : Nat → Nat) (l : NM) : Prop := w.ownsMap Try.prog 9 ptrElem b l.length (toD fb l)
theorem MapAt.of {w : World} {b n : Nat} {fb : Nat → Nat} {l : NM} (h : w.ownsMap Try.prog 9 ptrElem b n (toD fb l)) : MapAt w b fb l := by
  obtain ⟨es, clock, hb, F, hs, hD⟩ := h
  refine ⟨es, clock, hb, F, ?_, hD⟩
  have h1 : (toE fb l).length = _ := congrArg List.length (DataW.map.inj hD)
  rw [length_sorted] at h1
  simp [toE] at h1
  omega
theorem MapAt.same {w w' : World} {b : Nat} {fb : Nat → Nat} {l : NM} (h : MapAt w b fb l) (he : w'.heap[b]? = w.heap[b]?) : MapAt w' b fb l := by
  obtain ⟨es, clock, hb, F, hs, hD⟩ := h
  exact ⟨es, clock, he.trans hb, F, hs, hD⟩
theorem MapAt.lt {w : World} {b : Nat} {fb : Nat → Nat} {l : NM} (h : MapAt w b fb l) : b < w.heap.size := World.ownsMap.lt h
theorem MapAt.congr {w : World} {b : Nat} {fb fb' : Nat → Nat} {l : NM} (h : MapAt w b fb l) (he : ∀ p ∈ l, fb p.2 = fb' p.2) : MapAt w b fb' l := by
  unfold MapAt at *
  rw [← toD_congr he]
  exact h
theorem map_new (w : World) (fb : Nat → Nat) : MapAt (w.alloc (.map #[] 0)) w.heap.size fb [] := World.ownsMap_made w _ _ _
theorem keyOf_s {s : ByteArray} (hs : s.size ≤ maxLen) : keyOf Try.prog 9 (.string s) = some (.string s.data.toList) := WideMaps.keyOf_string_mk Try.underlying9 hs
/-- 'names[name]'. -/
def lookV (fb : Nat → Nat) (l : NM) (n : BS) : Value := match l.get n with | none => .pointer none | some f => .pointer (some ⟨fb f, 0, none⟩)
set_option maxRecDepth 100000 in
theorem MapAt.look {w : World} {b : Nat} {fb : Nat → Nat} {l : NM} (h : MapAt w b fb l) {s : ByteArray} (hs : s.size ≤ maxLen) :
    (Instr.lookup 78 (.map (some b)) (.string s) false).run Try.prog w = .ok (lookV fb l s.data.toList) w := by
  obtain ⟨v, ps, hrun, hv⟩ := World.ownsMap.lookup h keyS Try.underlying78 (zeroF w) (zd := .nil) (zp := []) rfl (keyOf_s hs)
  rw [hrun]
  rw [toD_at] at hv
  unfold lookV
  cases hg : l.get s.data.toList with
  | none =>
    rw [hg] at hv
    rcases ptrElem_inv hv with ⟨rfl, _⟩ | ⟨b', rfl, he⟩
    · rfl
    · cases he
  | some f =>
    rw [hg] at hv
    rcases ptrElem_inv hv with ⟨rfl, he⟩ | ⟨b', rfl, he⟩
    · cases he
    · injection he with he
      injection he with _ he
      obtain rfl : fb f = b' := by omega
      rfl
theorem turned_only {w w' : World} {b : Nat} (h : w.mapTurned w' b) : ∃ o, OnlyB w w' b o := by
  obtain ⟨es, clock, es', clock', _, rfl⟩ := h
  exact ⟨_, rfl, rfl, rfl, rfl⟩
/-- 'names[name] = f'. -/
theorem MapAt.update {w : World} {b : Nat} {fb : Nat → Nat} {l : NM} (h : MapAt w b fb l) {s : ByteArray} (hs : s.size ≤ maxLen) (f : Nat) (hl : l.length < maxLen) :
    ∃ w' o, (Instr.mapUpdate 78 (.map (some b)) (.string s) (.pointer (some ⟨fb f, 0, none⟩))).run Try.prog w = .ok () w' ∧ MapAt w' b fb (l.put s.data.toList f) ∧ OnlyB w w' b o := by
  obtain ⟨w', hr, hown, ht⟩ := World.ownsMap.store h keyS Try.underlying78 hl (keyOf_s hs) (ptrElem_mk (fb f))
  rw [toD_put] at hown
  obtain ⟨o, ho⟩ := turned_only ht
  exact ⟨w', o, hr, MapAt.of hown, ho⟩
/-- 'delete(names, name)'. -/
theorem MapAt.drop {w : World} {b : Nat} {fb : Nat → Nat} {l : NM} (h : MapAt w b fb l) {s : ByteArray} (hs : s.size ≤ maxLen) (ty : TypeId) :
    ∃ w' o, (Builtin.delete_ #[78, 9] ty #[.map (some b), .string s]).run Try.prog w = .ok (.tuple #[]) w' ∧ MapAt w' b fb (l.del s.data.toList) ∧ OnlyB w w' b o := by
  obtain ⟨w', hrun, h1, h2⟩ := World.ownsMap.drop h keyS Try.underlying78 (keyOf_s hs) ty
  rw [toD_del] at h1
  obtain ⟨o, ho⟩ := turned_only h2
  exact ⟨w', o, hrun, MapAt.of h1, ho⟩
/-- 'len(names)'. -/
theorem MapAt.len {w : World} {b : Nat} {fb : Nat → Nat} {l : NM} (h : MapAt w b fb l) (ty : TypeId) :
    (Builtin.len_ #[78] ty #[.map (some b)]).run Try.prog w = .ok (.int .i64 (l.length : Nat)) w := by
  have := World.ownsMap.len h Try.underlying78 ty
  rw [toD_size] at this
  exact this
end Go.Proofs.Ytgkpobajafjdeaa

/- A disk in memory: its object, its two maps, its changes, its files; each in blocks of roles of its own. -/
namespace Go.Proofs.Ytgkpobajafjdeaa
open Go.RowKit Go.Maps

/-- Role k of disk i. -/
def ro (i k : Nat) : Nat := 16 * k + i
/-- A list in a block of the role r. -/
def LstZ (w : World) (base : Nat) (ρ : Nat → Nat) (r : Nat) (e : TypeId) (sz : Nat) (v : Value) (n : Nat) (c : Nat → Value) : Prop := One w base e sz v n c ∧ ∀ g, v.ownBlock = some g → ρ g = r
theorem LstZ.keep {R : Nat → Prop} {w w' : World} {base r sz n : Nat} {ρ ρ' : Nat → Nat} {e : TypeId} {v : Value} {c : Nat → Value} (h : LstZ w base ρ r e sz v n c) (k : Keeps R w ρ w' ρ') (hr : ¬ R r) : LstZ w' base ρ' r e sz v n c :=
  ⟨h.1.same fun g hg => (k.2 g (h.1.block hg).2).2 (by rw [h.2 g hg]; exact hr), fun g hg => ((k.2 g (h.1.block hg).2).1).trans (h.2 g hg)⟩
theorem LstZ.nil (w : World) (base : Nat) (ρ : Nat → Nat) (r : Nat) (e : TypeId) (sz : Nat) (c : Nat → Value) : LstZ w base ρ r e sz (.slice none 0 0) 0 c := ⟨.inl ⟨rfl, rfl⟩, fun g hg => by simp [Value.ownBlock] at hg⟩
theorem One.len2 {w : World} {base sz n : Nat} {e : TypeId} {v : Value} {c : Nat → Value} (h : One w base e sz v n c) : ∃ A cap, v = .slice A n cap ∧ n ≤ cap := by
  rcases h with ⟨rfl, rfl⟩ | ⟨g, cap, cur, rfl, _, _, h4, _⟩
  · exact ⟨_, _, rfl, Nat.le_refl _⟩
  · exact ⟨_, _, rfl, h4⟩
theorem LstZ.len {w : World} {base r sz n : Nat} {ρ : Nat → Nat} {e : TypeId} {v : Value} {c : Nat → Value} (h : LstZ w base ρ r e sz v n c) : ∃ A cap, v = .slice A n cap ∧ n ≤ cap := h.1.len2
theorem LstZ.congr {w : World} {base r sz n : Nat} {ρ : Nat → Nat} {e : TypeId} {v : Value} {c c' : Nat → Value} (h : LstZ w base ρ r e sz v n c) (hc : ∀ k, k < n * sz → c k = c' k) : LstZ w base ρ r e sz v n c' := ⟨h.1.congr hc, h.2⟩
/-- Cell k of it. -/
theorem One.getN {w : World} {base sz n cap : Nat} {e : TypeId} {A : Option Addr} {c : Nat → Value} (h : One w base e sz (.slice A n cap) n c) {k : Nat} (hn : 0 < n) (hk : k < n * sz) : ∃ g, A = some ⟨g, 0, none⟩ ∧ w.cell? ⟨g, k, none⟩ = some (c k) := by
  have h' := h
  rcases h with ⟨_, h0⟩ | ⟨g, cap', cur, k1, _⟩
  · omega
  · injection k1 with k1 _ _
    subst k1
    exact ⟨g, rfl, h'.cell rfl hk⟩
theorem LstZ.get {w : World} {base r sz n cap : Nat} {ρ : Nat → Nat} {e : TypeId} {A : Option Addr} {c : Nat → Value} (h : LstZ w base ρ r e sz (.slice A n cap) n c) {k : Nat} (hn : 0 < n) (hk : k < n * sz) : ∃ g, A = some ⟨g, 0, none⟩ ∧ w.cell? ⟨g, k, none⟩ = some (c k) := h.1.getN hn hk
/-- The cells of bytes, of units, of changes. -/
def byteV (b : UInt8) : Value := .int .u8 (b.toNat : Nat)
def cB (b : BS) (k : Nat) : Value := byteV ((b[k]?).getD 0)
def Un.cell : Un → Nat → Value
  | .app _, 0 => .bool false
  | .app b, 1 => byteV b
  | .app _, _ => .int .i64 0
  | .cut _, 0 => .bool true
  | .cut _, 1 => .int .u8 0
  | .cut n, _ => .int .i64 (n : Nat)
def cU (us : List Un) (k : Nat) : Value := ((us[k / 3]?).getD (.cut 0)).cell (k % 3)
def Ch.cell (fb : Nat → Nat) : Ch → Nat → Value
  | .makes _ _, 0 => .int .i64 0
  | .makes n _, 1 => .string (str n)
  | .makes _ _, 2 => .string ⟨#[]⟩
  | .makes _ f, _ => .pointer (some ⟨fb f, 0, none⟩)
  | .renames _ _, 0 => .int .i64 1
  | .renames n _, 1 => .string (str n)
  | .renames _ t, 2 => .string (str t)
  | .renames _ _, _ => .pointer none
  | .removes _, 0 => .int .i64 2
  | .removes n, 1 => .string (str n)
  | .removes _, 2 => .string ⟨#[]⟩
  | .removes _, _ => .pointer none
def cC (fb : Nat → Nat) (cs : List Ch) (k : Nat) : Value := ((cs[k / 4]?).getD (.removes [])).cell fb (k % 4)
theorem cU_at {us : List Un} {k j : Nat} {u : Un} (hj : j < 3) (h : us[k]? = some u) : cU us (k * 3 + j) = u.cell j := by
  unfold cU
  rw [show (k * 3 + j) / 3 = k by omega, show (k * 3 + j) % 3 = j by omega, h]
  rfl
theorem cC_at {fb : Nat → Nat} {cs : List Ch} {k j : Nat} {u : Ch} (hj : j < 4) (h : cs[k]? = some u) : cC fb cs (k * 4 + j) = u.cell fb j := by
  unfold cC
  rw [show (k * 4 + j) / 4 = k by omega, show (k * 4 + j) % 4 = j by omega, h]
  rfl
theorem cB_at {b : BS} {k : Nat} {u : UInt8} (h : b[k]? = some u) : cB b k = byteV u := by
  unfold cB
  rw [h]
  rfl
/-- File number j of disk i lies at block b. -/
structure FileD (w : World) (base : Nat) (ρ : Nat → Nat) (i j b : Nat) (f : FM) (kv uv sv : Value) : Prop where
  obj : Objr w ρ (ro i (4 + 4 * j)) b (.cells #[kv, uv, sv] 77 (0, 0))
  kept : LstZ w base ρ (ro i (5 + 4 * j)) 5 1 kv f.kept.length (cB f.kept)
  units : One w base 89 3 uv f.units.length (cU f.units)
  unitr : ∀ g, uv.ownBlock = some g → ρ g = ro i (6 + 4 * j)
  seen : LstZ w base ρ (ro i (7 + 4 * j)) 5 1 sv f.seen.length (cB f.seen)
  lo : base ≤ b
theorem FileD.keep {R : Nat → Prop} {w w' : World} {base i j b : Nat} {ρ ρ' : Nat → Nat} {f : FM} {kv uv sv : Value} (h : FileD w base ρ i j b f kv uv sv) (k : Keeps R w ρ w' ρ') (hR : ∀ x, x < 4 → ¬ R (ro i (4 + 4 * j + x))) : FileD w' base ρ' i j b f kv uv sv := by
  have h0 := hR 0 (by omega)
  have h1 := hR 1 (by omega)
  have h2 := hR 2 (by omega)
  have h3 := hR 3 (by omega)
  rw [Nat.add_zero] at h0
  rw [show 4 + 4 * j + 1 = 5 + 4 * j by omega] at h1
  rw [show 4 + 4 * j + 2 = 6 + 4 * j by omega] at h2
  rw [show 4 + 4 * j + 3 = 7 + 4 * j by omega] at h3
  exact ⟨h.obj.keep k h0, h.kept.keep k h1, h.units.same fun g hg => (k.2 g (h.units.block hg).2).2 (by rw [h.unitr g hg]; exact h2), fun g hg => ((k.2 g (h.units.block hg).2).1).trans (h.unitr g hg), h.seen.keep k h3, h.lo⟩
def diskC (d : DM) (bN bS : Nat) (chv : Value) : Array Value := #[.int .i64 d.room, .bool d.off, .map (some bN), .map (some bS), chv, .int .i64 (d.strokes : Nat), .int .i64 (d.count : Nat), .int .i64 d.plan.off, .int .i64 d.plan.full, .int .i64 d.plan.to]
/-- Disk i in memory. -/
structure DiskD (w : World) (base : Nat) (ρ : Nat → Nat) (i D : Nat) (d : DM) (fb : Nat → Nat) (bN bS : Nat) (chv : Value) : Prop where
  obj : Objr w ρ (ro i 0) D (.cells (diskC d bN bS chv) 81 (0, 0))
  names : MapAt w bN fb d.names
  namesr : ρ bN = ro i 1
  sure : MapAt w bS fb d.sure
  surer : ρ bS = ro i 2
  ch : One w base 98 4 chv d.ch.length (cC fb d.ch)
  chr : ∀ g, chv.ownBlock = some g → ρ g = ro i 3
  files : ∀ j, j < d.files.length → ∃ kv uv sv, FileD w base ρ i j (fb j) (d.file j) kv uv sv
  lo : base ≤ D ∧ base ≤ bN ∧ base ≤ bS
theorem DiskD.keep {R : Nat → Prop} {w w' : World} {base i D bN bS : Nat} {ρ ρ' : Nat → Nat} {d : DM} {fb : Nat → Nat} {chv : Value} (h : DiskD w base ρ i D d fb bN bS chv) (k : Keeps R w ρ w' ρ') (hR : ∀ x, ¬ R (ro i x)) : DiskD w' base ρ' i D d fb bN bS chv :=
  ⟨h.obj.keep k (hR _), h.names.same ((k.2 bN h.names.lt).2 (by rw [h.namesr]; exact hR _)), ((k.2 bN h.names.lt).1).trans h.namesr, h.sure.same ((k.2 bS h.sure.lt).2 (by rw [h.surer]; exact hR _)), ((k.2 bS h.sure.lt).1).trans h.surer,
    h.ch.same fun g hg => (k.2 g (h.ch.block hg).2).2 (by rw [h.chr g hg]; exact hR _), fun g hg => ((k.2 g (h.ch.block hg).2).1).trans (h.chr g hg),
    fun j hj => by obtain ⟨kv, uv, sv, hf⟩ := h.files j hj; exact ⟨kv, uv, sv, hf.keep k (fun x _ => hR _)⟩, h.lo⟩
/-- Disk i, whatever blocks it has. -/
def DiskAt (w : World) (base : Nat) (ρ : Nat → Nat) (i D : Nat) (d : DM) : Prop := ∃ fb bN bS chv, DiskD w base ρ i D d fb bN bS chv
theorem DiskAt.keep {R : Nat → Prop} {w w' : World} {base i D : Nat} {ρ ρ' : Nat → Nat} {d : DM} (h : DiskAt w base ρ i D d) (k : Keeps R w ρ w' ρ') (hR : ∀ x, ¬ R (ro i x)) : DiskAt w' base ρ' i D d := by
  obtain ⟨fb, bN, bS, chv, h⟩ := h
  exact ⟨fb, bN, bS, chv, h.keep k hR⟩
theorem DiskD.below {w w' : World} {base i D bN bS : Nat} {ρ : Nat → Nat} {d : DM} {fb : Nat → Nat} {chv : Value} (h : DiskD w base ρ i D d fb bN bS chv) (hb : Below w.heap.size w w') : DiskD w' base ρ i D d fb bN bS chv := h.keep (Keeps.below (fun _ => False) ρ hb) (fun _ => id)
theorem DiskAt.below {w w' : World} {base i D : Nat} {ρ : Nat → Nat} {d : DM} (h : DiskAt w base ρ i D d) (hb : Below w.heap.size w w') : DiskAt w' base ρ i D d := h.keep (Keeps.below (fun _ => False) ρ hb) (fun _ => id)
theorem DiskD.base_le {w : World} {base i D bN bS : Nat} {ρ : Nat → Nat} {d : DM} {fb : Nat → Nat} {chv : Value} (h : DiskD w base ρ i D d fb bN bS chv) : base ≤ w.heap.size := by have := h.lo.1; have := lt_of_obj h.obj.1; omega
/-- The disk's cells. -/
theorem DiskD.cell {w : World} {base i D bN bS : Nat} {ρ : Nat → Nat} {d : DM} {fb : Nat → Nat} {chv : Value} (h : DiskD w base ρ i D d fb bN bS chv) (k : Nat) : w.cell? ⟨D, k, none⟩ = (diskC d bN bS chv)[k]? := cell_of_obj h.obj.1 k
end Go.Proofs.Ytgkpobajafjdeaa

/- disk.fair, tallyref4.IsName: a file name's letters. -/
namespace Go.Proofs.Ytgkpobajafjdeaa
open Go.RowKit

theorem fair_ways (c : UInt8) :
    (decide ((97 : Int) ≤ (c.toNat : Nat)) = true ∧ decide (((c.toNat : Nat) : Int) ≤ 122) = true ∧ decide ((48 : Int) ≤ (c.toNat : Nat)) = true ∧ decide (((c.toNat : Nat) : Int) ≤ 57) = false ∧ (((c.toNat : Nat) : Int) == 46) = false ∧ (((c.toNat : Nat) : Int) == 45) = false ∧ (((c.toNat : Nat) : Int) == 95) = false ∧ fairC c = true) ∨
    (decide ((97 : Int) ≤ (c.toNat : Nat)) = true ∧ decide (((c.toNat : Nat) : Int) ≤ 122) = false ∧ decide ((48 : Int) ≤ (c.toNat : Nat)) = true ∧ decide (((c.toNat : Nat) : Int) ≤ 57) = false ∧ (((c.toNat : Nat) : Int) == 46) = false ∧ (((c.toNat : Nat) : Int) == 45) = false ∧ (((c.toNat : Nat) : Int) == 95) = false ∧ fairC c = false) ∨
    (decide ((97 : Int) ≤ (c.toNat : Nat)) = false ∧ decide (((c.toNat : Nat) : Int) ≤ 122) = true ∧ decide ((48 : Int) ≤ (c.toNat : Nat)) = true ∧ decide (((c.toNat : Nat) : Int) ≤ 57) = true ∧ (((c.toNat : Nat) : Int) == 46) = false ∧ (((c.toNat : Nat) : Int) == 45) = false ∧ (((c.toNat : Nat) : Int) == 95) = false ∧ fairC c = true) ∨
    (decide ((97 : Int) ≤ (c.toNat : Nat)) = false ∧ decide (((c.toNat : Nat) : Int) ≤ 122) = true ∧ decide ((48 : Int) ≤ (c.toNat : Nat)) = true ∧ decide (((c.toNat : Nat) : Int) ≤ 57) = false ∧ (((c.toNat : Nat) : Int) == 46) = false ∧ (((c.toNat : Nat) : Int) == 45) = false ∧ (((c.toNat : Nat) : Int) == 95) = true ∧ fairC c = true) ∨
    (decide ((97 : Int) ≤ (c.toNat : Nat)) = false ∧ decide (((c.toNat : Nat) : Int) ≤ 122) = true ∧ decide ((48 : Int) ≤ (c.toNat : Nat)) = true ∧ decide (((c.toNat : Nat) : Int) ≤ 57) = false ∧ (((c.toNat : Nat) : Int) == 46) = false ∧ (((c.toNat : Nat) : Int) == 45) = false ∧ (((c.toNat : Nat) : Int) == 95) = false ∧ fairC c = false) ∨
    (decide ((97 : Int) ≤ (c.toNat : Nat)) = false ∧ decide (((c.toNat : Nat) : Int) ≤ 122) = true ∧ decide ((48 : Int) ≤ (c.toNat : Nat)) = false ∧ decide (((c.toNat : Nat) : Int) ≤ 57) = true ∧ (((c.toNat : Nat) : Int) == 46) = true ∧ (((c.toNat : Nat) : Int) == 45) = false ∧ (((c.toNat : Nat) : Int) == 95) = false ∧ fairC c = true) ∨
    (decide ((97 : Int) ≤ (c.toNat : Nat)) = false ∧ decide (((c.toNat : Nat) : Int) ≤ 122) = true ∧ decide ((48 : Int) ≤ (c.toNat : Nat)) = false ∧ decide (((c.toNat : Nat) : Int) ≤ 57) = true ∧ (((c.toNat : Nat) : Int) == 46) = false ∧ (((c.toNat : Nat) : Int) == 45) = true ∧ (((c.toNat : Nat) : Int) == 95) = false ∧ fairC c = true) ∨
    (decide ((97 : Int) ≤ (c.toNat : Nat)) = false ∧ decide (((c.toNat : Nat) : Int) ≤ 122) = true ∧ decide ((48 : Int) ≤ (c.toNat : Nat)) = false ∧ decide (((c.toNat : Nat) : Int) ≤ 57) = true ∧ (((c.toNat : Nat) : Int) == 46) = false ∧ (((c.toNat : Nat) : Int) == 45) = false ∧ (((c.toNat : Nat) : Int) == 95) = false ∧ fairC c = false) := by
  have hc : c.toNat < 256 := c.toNat_lt
  unfold fairC
  generalize c.toNat = n at hc ⊢
  have hw : (97 ≤ n ∧ n ≤ 122) ∨ (122 < n) ∨ (48 ≤ n ∧ n ≤ 57) ∨ (n = 95) ∨ (57 < n ∧ n < 97 ∧ n ≠ 95) ∨ (n = 46) ∨ (n = 45) ∨ (n < 48 ∧ n ≠ 46 ∧ n ≠ 45) := by omega
  rcases hw with h | h | h | h | h | h | h | h
  · refine Or.inl ⟨?_, ?_, ?_, ?_, ?_, ?_, ?_, ?_⟩ <;> simp <;> omega
  · refine Or.inr (Or.inl ⟨?_, ?_, ?_, ?_, ?_, ?_, ?_, ?_⟩) <;> simp <;> omega
  · refine Or.inr (Or.inr (Or.inl ⟨?_, ?_, ?_, ?_, ?_, ?_, ?_, ?_⟩)) <;> simp <;> omega
  · refine Or.inr (Or.inr (Or.inr (Or.inl ⟨?_, ?_, ?_, ?_, ?_, ?_, ?_, ?_⟩))) <;> simp <;> omega
  · refine Or.inr (Or.inr (Or.inr (Or.inr (Or.inl ⟨?_, ?_, ?_, ?_, ?_, ?_, ?_, ?_⟩)))) <;> simp <;> omega
  · refine Or.inr (Or.inr (Or.inr (Or.inr (Or.inr (Or.inl ⟨?_, ?_, ?_, ?_, ?_, ?_, ?_, ?_⟩))))) <;> simp <;> omega
  · refine Or.inr (Or.inr (Or.inr (Or.inr (Or.inr (Or.inr (Or.inl ⟨?_, ?_, ?_, ?_, ?_, ?_, ?_, ?_⟩)))))) <;> simp <;> omega
  · refine Or.inr (Or.inr (Or.inr (Or.inr (Or.inr (Or.inr (Or.inr (⟨?_, ?_, ?_, ?_, ?_, ?_, ?_, ?_⟩))))))) <;> simp <;> omega
def FairRel (w : World) (s : ByteArray) (iv : Value) (wr : World) : Prop := ∃ k : Nat, iv = .int .i64 k ∧ k ≤ s.size ∧ w = wr ∧ ∀ j (hj : j < s.size), j < k → fairC s[j] = true
theorem fair_no {s : ByteArray} {k : Nat} (hk : k < s.size) (h : fairC s[k] = false) : fairB s.data.toList = false := by
  unfold fairB
  have : s.data.toList.all fairC = false := by
    rw [List.all_eq_false]
    exact ⟨s[k], by rw [← Array.mem_def]; exact Array.getElem_mem _, by rw [h]; simp⟩
  rw [this, Bool.false_and]
theorem fair_yes {s : ByteArray} (h : ∀ k (hk : k < s.size), fairC s[k] = true) : fairB s.data.toList = (decide (1 ≤ s.size) && decide (s.size ≤ 64)) := by
  unfold fairB
  have h1 : s.data.toList.all fairC = true := by
    rw [List.all_eq_true]
    intro x hx
    obtain ⟨k, hk, rfl⟩ := List.mem_iff_getElem.1 hx
    exact h k (by simpa using hk)
  have h2 : s.data.toList.length = s.size := rfl
  rw [h1, h2, Bool.true_and]
set_option maxRecDepth 100000 in
set_option maxHeartbeats 4000000 in
theorem fair_any (w : World) (s : ByteArray) (hs : s.size ≤ 9223372036854775807) : Calls Try.prog 37 #[.string s] w fun e w' => e = .returned (.bool (fairB s.data.toList)) ∧ w = w' := by
  go_enter Try.func37, Try.ntmps37
  go_wp2
  go_loopw [7] (fun iv wr => FairRel w s iv wr) (fun iv _ => (s.size - intOf iv).toNat)
  case atStart => exact ⟨0, rfl, Nat.zero_le _, rfl, fun j _ h => by omega⟩
  case round =>
    obtain ⟨k, rfl, hk, rfl, hall⟩ := hrel
    have HA := Lib.hid hall
    clear hall
    by_cases hlt : k < s.size
    · have q0 : (k : Int) < (s.size : Int) := by omega
      rcases fair_ways (s[k]'hlt) with ⟨q1, q2, q3, q4, q5, q6, q7, q8⟩ | ⟨q1, q2, q3, q4, q5, q6, q7, q8⟩ | ⟨q1, q2, q3, q4, q5, q6, q7, q8⟩ | ⟨q1, q2, q3, q4, q5, q6, q7, q8⟩ | ⟨q1, q2, q3, q4, q5, q6, q7, q8⟩ | ⟨q1, q2, q3, q4, q5, q6, q7, q8⟩ | ⟨q1, q2, q3, q4, q5, q6, q7, q8⟩ | ⟨q1, q2, q3, q4, q5, q6, q7, q8⟩
      all_goals
        have Q8 := Lib.hid q8
        clear q8
        go_wp2
        first
          | (refine ⟨⟨k + 1, by go_num, by omega, rfl, fun j hj hlt2 => ?_⟩, by simp [intOf]; omega⟩
             by_cases hjk : j = k
             · subst hjk; exact Q8.out
             · exact HA.out j hj (by omega))
          | (go_ret; exact ⟨by rw [fair_no hlt Q8.out] <;> rfl, rfl⟩)
    · have HB := Lib.hid (fair_yes (fun j hj => HA.out j hj (by omega)))
      by_cases h1 : 1 ≤ s.size
      · have q1 : decide ((1 : Int) ≤ (s.size : Int)) = true := decide_eq_true (by omega)
        by_cases h2 : s.size ≤ 64
        · have q2 : decide ((s.size : Int) ≤ 64) = true := decide_eq_true (by omega)
          have HC := Lib.hid (show fairB s.data.toList = true by rw [HB.out, decide_eq_true h1, decide_eq_true h2]; rfl)
          clear h1 h2
          go_wp2
          go_ret
          exact ⟨by rw [HC.out] <;> rfl, rfl⟩
        · have q2 : decide ((s.size : Int) ≤ 64) = false := decide_eq_false (by omega)
          have HC := Lib.hid (show fairB s.data.toList = false by rw [HB.out, decide_eq_true h1, decide_eq_false h2]; rfl)
          clear h1 h2
          go_wp2
          go_ret
          exact ⟨by rw [HC.out] <;> rfl, rfl⟩
      · have q1 : decide ((1 : Int) ≤ (s.size : Int)) = false := decide_eq_false (by omega)
        have HC := Lib.hid (show fairB s.data.toList = false by rw [HB.out, decide_eq_false h1]; rfl)
        clear h1
        go_wp2
        go_ret
        exact ⟨by rw [HC.out] <;> rfl, rfl⟩
set_option maxRecDepth 100000 in
set_option maxHeartbeats 4000000 in
theorem isName_any (w : World) (s : ByteArray) (hs : s.size ≤ 9223372036854775807) : Calls Try.prog 9 #[.string s] w fun e w' => e = .returned (.bool (fairB s.data.toList)) ∧ w = w' := by
  have hlen : s.data.toList.length = s.size := rfl
  by_cases h1 : 1 ≤ s.size
  · have q1 : decide ((s.size : Int) < 1) = false := decide_eq_false (by omega)
    by_cases h2 : s.size ≤ 64
    · have q2 : decide ((64 : Int) < (s.size : Int)) = false := decide_eq_false (by omega)
      have HS := Lib.hid (And.intro h1 h2)
      clear h1 h2 hlen
      go_enter Try.func9, Try.ntmps9
      go_wp2
      clear q1 q2
      go_loopw [3] (fun iv wr => FairRel w s iv wr) (fun iv _ => (s.size - intOf iv).toNat)
      case atStart => exact ⟨0, rfl, Nat.zero_le _, rfl, fun j _ h => by omega⟩
      case round =>
        obtain ⟨k, rfl, hk, rfl, hall⟩ := hrel
        have HA := Lib.hid hall
        clear hall
        by_cases hlt : k < s.size
        · have q0 : (k : Int) < (s.size : Int) := by omega
          rcases fair_ways (s[k]'hlt) with ⟨q1, q2, q3, q4, q5, q6, q7, q8⟩ | ⟨q1, q2, q3, q4, q5, q6, q7, q8⟩ | ⟨q1, q2, q3, q4, q5, q6, q7, q8⟩ | ⟨q1, q2, q3, q4, q5, q6, q7, q8⟩ | ⟨q1, q2, q3, q4, q5, q6, q7, q8⟩ | ⟨q1, q2, q3, q4, q5, q6, q7, q8⟩ | ⟨q1, q2, q3, q4, q5, q6, q7, q8⟩ | ⟨q1, q2, q3, q4, q5, q6, q7, q8⟩
          all_goals
            have Q8 := Lib.hid q8
            clear q8
            have r5 : ((((s[k]'hlt).toNat : Nat) : Int) != 46) = !((((s[k]'hlt).toNat : Nat) : Int) == 46) := rfl
            have r6 : ((((s[k]'hlt).toNat : Nat) : Int) != 45) = !((((s[k]'hlt).toNat : Nat) : Int) == 45) := rfl
            have r7 : ((((s[k]'hlt).toNat : Nat) : Int) != 95) = !((((s[k]'hlt).toNat : Nat) : Int) == 95) := rfl
            rw [q5] at r5
            rw [q6] at r6
            rw [q7] at r7
            simp only [Bool.not_true, Bool.not_false] at r5 r6 r7
            go_wp2
            first
              | (refine ⟨⟨k + 1, by go_num, by omega, rfl, fun j hj hlt2 => ?_⟩, by simp [intOf]; omega⟩
                 by_cases hjk : j = k
                 · subst hjk; exact Q8.out
                 · exact HA.out j hj (by omega))
              | (go_ret; exact ⟨by rw [fair_no hlt Q8.out] <;> rfl, rfl⟩)
        · have HC := Lib.hid (show fairB s.data.toList = true by rw [fair_yes (fun j hj => HA.out j hj (by omega)), decide_eq_true HS.out.1, decide_eq_true HS.out.2]; rfl)
          go_wp2
          go_ret
          exact ⟨by rw [HC.out] <;> rfl, rfl⟩
    · have q2 : decide ((64 : Int) < (s.size : Int)) = true := decide_eq_true (by omega)
      have HC := Lib.hid (show fairB s.data.toList = false by unfold fairB; rw [hlen, decide_eq_false h2, Bool.and_false, Bool.and_false])
      clear h1 h2 hlen
      go_enter Try.func9, Try.ntmps9
      go_wp2
      go_ret
      exact ⟨by rw [HC.out] <;> rfl, rfl⟩
  · have q1 : decide ((s.size : Int) < 1) = true := decide_eq_true (by omega)
    have HC := Lib.hid (show fairB s.data.toList = false by unfold fairB; rw [hlen, decide_eq_false h1, Bool.false_and, Bool.and_false])
    clear h1 hlen
    go_enter Try.func9, Try.ntmps9
    go_wp2
    go_ret
    exact ⟨by rw [HC.out] <;> rfl, rfl⟩
end Go.Proofs.Ytgkpobajafjdeaa

/- The disk's small calls: New, stroke, find, Plan, Strokes, Room; told, num. -/
namespace Go.Proofs.Ytgkpobajafjdeaa
open Go.RowKit

theorem ro_inj {i j k l : Nat} (hi : i < 16) (hj : j < 16) (h : ro i k = ro j l) : i = j ∧ k = l := by unfold ro at h; omega
/-- What a step of disk i leaves. -/
def DkEnd (base : Nat) (ρ : Nat → Nat) (i D : Nat) (d : DM) (w w' : World) : Prop := ∃ ρ', DiskAt w' base ρ' i D d ∧ Keeps (fun r => ∃ k, r = ro i k) w ρ w' ρ' ∧ Free w' ρ' ∧ Below base w w'
/-- The disk's object alone is put anew. -/
theorem DiskD.put {w w' : World} {base i D bN bS : Nat} {ρ : Nat → Nat} {d d' : DM} {fb : Nat → Nat} {chv : Value} (h : DiskD w base ρ i D d fb bN bS chv) (hi : i < 16) (hO : OnlyB w w' D (.cells (diskC d' bN bS chv) 81 (0, 0)))
    (e1 : d'.names = d.names) (e2 : d'.sure = d.sure) (e3 : d'.ch = d.ch) (e4 : d'.files = d.files) :
    DiskD w' base ρ i D d' fb bN bS chv ∧ Keeps (fun r => r = ro i 0) w ρ w' ρ ∧ w'.heap.size = w.heap.size ∧ Below base w w' := by
  have K : Keeps (fun r => r = ro i 0) w ρ w' ρ := Keeps.only ρ hO h.obj.2
  have ne : ∀ k, k ≠ 0 → ro i k ≠ ro i 0 := fun k hk e => hk (ro_inj hi hi e).2
  have hf : d'.file = d.file := by funext f; unfold DM.file; rw [e4]
  refine ⟨⟨⟨hO.at_ (lt_of_obj h.obj.1), h.obj.2⟩, ?_, h.namesr, ?_, h.surer, ?_, h.chr, ?_, h.lo⟩, K, hO.size, hO.below h.lo.1⟩
  · rw [e1]; exact h.names.same ((K.2 bN h.names.lt).2 (by rw [h.namesr]; exact ne 1 (by omega)))
  · rw [e2]; exact h.sure.same ((K.2 bS h.sure.lt).2 (by rw [h.surer]; exact ne 2 (by omega)))
  · rw [e3]; exact h.ch.same fun g hg => (K.2 g (h.ch.block hg).2).2 (by rw [h.chr g hg]; exact ne 3 (by omega))
  · intro j hj
    rw [e4] at hj
    rw [hf]
    obtain ⟨kv, uv, sv, hd⟩ := h.files j hj
    exact ⟨kv, uv, sv, hd.keep K (fun x _ => ne _ (by omega))⟩
theorem told_any (w : World) (b : Bool) : Calls Try.prog 57 #[.bool b] w fun e w' => e = .returned (.int .i64 (toldN b)) ∧ w = w' := by
  unfold toldN
  cases b <;>
  · go_enter Try.func57, Try.ntmps57
    go_wp2
    go_ret
    exact ⟨rfl, rfl⟩
theorem num_any (w : World) (n : Int) : Calls Try.prog 13 #[.int .i64 n] w fun e w' => e = .returned (.int .i64 n) ∧ w = w' := by
  go_enter Try.func13, Try.ntmps13
  go_wp2
  go_ret
  exact ⟨rfl, rfl⟩
theorem strokes_any (w : World) (base i D bN bS : Nat) (ρ : Nat → Nat) (d : DM) (fb : Nat → Nat) (chv : Value) (h : DiskD w base ρ i D d fb bN bS chv) :
    Calls Try.prog 14 #[.pointer (some ⟨D, 0, none⟩)] w fun e w' => e = .returned (.int .i64 (d.strokes : Nat)) ∧ w = w' := by
  have c5 := h.cell 5
  simp only [diskC, List.getElem?_toArray, List.getElem?_cons_zero, List.getElem?_cons_succ] at c5
  clear h
  go_enter Try.func14, Try.ntmps14
  go_wp2
  go_ret
  exact ⟨rfl, rfl⟩
theorem room_any (w : World) (base i D bN bS : Nat) (ρ : Nat → Nat) (d : DM) (fb : Nat → Nat) (chv : Value) (h : DiskD w base ρ i D d fb bN bS chv) :
    Calls Try.prog 15 #[.pointer (some ⟨D, 0, none⟩)] w fun e w' => e = .returned (.int .i64 d.room) ∧ w = w' := by
  have c0 := h.cell 0
  simp only [diskC, List.getElem?_toArray, List.getElem?_cons_zero] at c0
  clear h
  go_enter Try.func15, Try.ntmps15
  go_wp2
  go_ret
  exact ⟨rfl, rfl⟩
/-- The value that find tells. -/
def findV (d : DM) (fb : Nat → Nat) (n : BS) : Value := if d.err n = 0 then lookV fb d.names n else .pointer none
theorem err_cases (d : DM) (n : BS) : (d.off = true ∧ d.err n = 45) ∨ (d.off = false ∧ fairB n = false ∧ d.err n = 41) ∨ (d.off = false ∧ fairB n = true ∧ d.names.get n = none ∧ d.err n = 42) ∨ (d.off = false ∧ fairB n = true ∧ (∃ f, d.names.get n = some f) ∧ d.err n = 0) := by
  unfold DM.err
  cases d.off with
  | true => exact .inl ⟨rfl, rfl⟩
  | false =>
    cases fairB n with
    | false => exact .inr (.inl ⟨rfl, rfl, rfl⟩)
    | true =>
      cases d.names.get n with
      | none => exact .inr (.inr (.inl ⟨rfl, rfl, rfl, rfl⟩))
      | some f => exact .inr (.inr (.inr ⟨rfl, rfl, ⟨f, rfl⟩, rfl⟩))
set_option maxRecDepth 100000 in
theorem find_any (w : World) (base i D bN bS : Nat) (ρ : Nat → Nat) (d : DM) (fb : Nat → Nat) (chv : Value) (h : DiskD w base ρ i D d fb bN bS chv) (s : ByteArray) (hs : s.size ≤ maxLen) :
    Calls Try.prog 41 #[.pointer (some ⟨D, 0, none⟩), .string s] w fun e w' => e = .returned (.tuple #[findV d fb s.data.toList, .int .i64 (d.err s.data.toList)]) ∧ w = w' := by
  have c1 := h.cell 1
  have c2 := h.cell 2
  simp only [diskC, List.getElem?_toArray, List.getElem?_cons_zero, List.getElem?_cons_succ] at c1 c2
  have hlk := h.names.look hs
  have hs2 : s.size ≤ 9223372036854775807 := by unfold maxLen at hs; omega
  have hF := fair_any w s hs2
  unfold findV
  rcases err_cases d s.data.toList with ⟨e1, e2⟩ | ⟨e1, e2, e3⟩ | ⟨e1, e2, e3, e4⟩ | ⟨e1, e2, ⟨f, e3⟩, e4⟩
  · rw [e2, if_neg (by decide)]
    rw [e1] at c1
    clear h hlk hF e1 e2
    go_enter Try.func41, Try.ntmps41
    go_wp2
    go_ret2
    exact ⟨rfl, rfl⟩
  · rw [e3, if_neg (by decide)]
    rw [e1] at c1
    rw [e2] at hF
    clear h hlk e1 e2 e3
    go_enter Try.func41, Try.ntmps41
    go_wp2_with (go_at_call 37; (with_reducible refine hF.mono ?_); rintro e w1 ⟨rfl, rfl⟩)
    go_ret2
    exact ⟨rfl, rfl⟩
  · rw [e4, if_neg (by decide)]
    rw [e1] at c1
    rw [e2] at hF
    unfold lookV at hlk
    rw [e3] at hlk
    clear h e1 e2 e3 e4
    go_enter Try.func41, Try.ntmps41
    go_wp2_with (go_at_call 37; (with_reducible refine hF.mono ?_); rintro e w1 ⟨rfl, rfl⟩)
    go_ret2
    exact ⟨rfl, rfl⟩
  · rw [e4, if_pos rfl]
    rw [e1] at c1
    rw [e2] at hF
    unfold lookV at hlk ⊢
    rw [e3] at hlk ⊢
    clear h e1 e2 e3 e4
    go_enter Try.func41, Try.ntmps41
    go_wp2_with (go_at_call 37; (with_reducible refine hF.mono ?_); rintro e w1 ⟨rfl, rfl⟩)
    go_ret2
    exact ⟨rfl, rfl⟩
end Go.Proofs.Ytgkpobajafjdeaa

/- The disk's stroke, Plan, New. -/
namespace Go.Proofs.Ytgkpobajafjdeaa
open Go.RowKit

def StrokeEnd (base : Nat) (ρ : Nat → Nat) (i D : Nat) (d : DM) (fb : Nat → Nat) (bN bS : Nat) (chv : Value) (w : World) (e : Ending) (w' : World) : Prop :=
  e = .returned (.bool d.stroke.off) ∧ DiskD w' base ρ i D d.stroke fb bN bS chv ∧ Keeps (fun r => r = ro i 0) w ρ w' ρ ∧ w'.heap.size = w.heap.size ∧ Below base w w'
set_option maxRecDepth 100000 in
set_option maxHeartbeats 1000000 in
theorem stroke_any (w : World) (base i D bN bS : Nat) (ρ : Nat → Nat) (d : DM) (fb : Nat → Nat) (chv : Value) (h : DiskD w base ρ i D d fb bN bS chv) (hi : i < 16) (hs : d.strokes < 1000000000) (hc : d.count < 1000000000) :
    Calls Try.prog 54 #[.pointer (some ⟨D, 0, none⟩)] w (StrokeEnd base ρ i D d fb bN bS chv w) := by
  have hlt := lt_of_obj h.obj.1
  have hO1 := OnlyB.set (OnlyB.refl h.obj.1) hlt 5 (.int .i64 ((d.strokes : Int) + 1))
  have hO2 := hO1.set hlt 6 (.int .i64 ((d.count : Int) + 1))
  have b1 := hO1.at_ hlt
  have b2 := hO2.at_ hlt
  have c5 := h.cell 5
  have f5 := free_of_obj h.obj.1 5
  have c6 := cell_of_obj b1 6
  have f6 := free_of_obj b1 6
  have g6 := cell_of_obj b2 6
  have g7 := cell_of_obj b2 7
  have g1 := cell_of_obj b2 1
  have k1 := free_of_obj b2 1
  simp only [diskC, List.setIfInBounds_toArray, List.set_cons_zero, List.set_cons_succ, List.getElem?_toArray, List.getElem?_cons_zero, List.getElem?_cons_succ] at c5 c6 g6 g7 g1
  have HO2 := Lib.hid hO2
  have H := Lib.hid h
  clear hO1 hO2 h b1 b2
  go_enter Try.func54, Try.ntmps54
  go_wp2
  generalize (w.setCell ⟨D, 5, none⟩ (.int .i64 ((d.strokes : Int) + 1))).setCell ⟨D, 6, none⟩ (.int .i64 ((d.count : Int) + 1)) = w2 at g6 g7 g1 k1 HO2 ⊢
  clear c5 f5 c6 f6
  go_still_tail 13, (by kernel_rfl)
  go_wp2
  go_ret
  have hO3 := (HO2.out.set hlt 1 (.bool ((d.count : Int) + 1 == d.plan.off))).drew
  have e : Obj.cells (((((diskC d bN bS chv).setIfInBounds 5 (.int .i64 ((d.strokes : Int) + 1))).setIfInBounds 6 (.int .i64 ((d.count : Int) + 1)))).setIfInBounds 1 (.bool ((d.count : Int) + 1 == d.plan.off))) 81 (0, 0) = .cells (diskC d.stroke bN bS chv) 81 (0, 0) := rfl
  rw [e] at hO3
  obtain ⟨h1, h2, h3, h4⟩ := H.out.put (d' := d.stroke) hi hO3 rfl rfl rfl rfl
  exact ⟨rfl, h1, h2, h3, h4⟩
end Go.Proofs.Ytgkpobajafjdeaa

/- The disk's New and Plan. -/
namespace Go.Proofs.Ytgkpobajafjdeaa
open Go.RowKit Go.Maps

/-- Three blocks of a new disk. -/
theorem disk_new (w : World) (base i : Nat) (ρ : Nat → Nat) (room : Int) (hf : Free w ρ) (hb : base ≤ w.heap.size) :
    DkEnd base ρ i (w.heap.size + 2) (DM.new room) w (((w.alloc (.map #[] 0)).alloc (.map #[] 0)).alloc (.cells (diskC (DM.new room) w.heap.size (w.heap.size + 1) (.slice none 0 0)) 81 (0, 0))) := by
  have hb0 : Below w.heap.size w (((w.alloc (.map #[] 0)).alloc (.map #[] 0)).alloc (.cells (diskC (DM.new room) w.heap.size (w.heap.size + 1) (.slice none 0 0)) 81 (0, 0))) := (((Below.refl _ _).alloc (Nat.le_refl _) _).alloc (by simp) _).alloc (by simp; omega) _
  have m0 : MapAt (((w.alloc (.map #[] 0)).alloc (.map #[] 0)).alloc (.cells (diskC (DM.new room) w.heap.size (w.heap.size + 1) (.slice none 0 0)) 81 (0, 0))) w.heap.size (fun _ => 0) [] := (map_new w _).same (by rw [Below.heap_alloc _ _ _ (by simp; omega), Below.heap_alloc _ _ _ (by simp)])
  have m1 : MapAt (((w.alloc (.map #[] 0)).alloc (.map #[] 0)).alloc (.cells (diskC (DM.new room) w.heap.size (w.heap.size + 1) (.slice none 0 0)) 81 (0, 0))) (w.heap.size + 1) (fun _ => 0) [] := by
    have := map_new (w.alloc (.map #[] 0)) (fun _ => 0)
    rw [World.size_alloc] at this
    exact this.same (by rw [Below.heap_alloc _ _ _ (by simp)])
  have o2 : (((w.alloc (.map #[] 0)).alloc (.map #[] 0)).alloc (.cells (diskC (DM.new room) w.heap.size (w.heap.size + 1) (.slice none 0 0)) 81 (0, 0))).heap[w.heap.size + 2]? = some (.cells (diskC (DM.new room) w.heap.size (w.heap.size + 1) (.slice none 0 0)) 81 (0, 0)) := by
    have := heap_alloc_new ((w.alloc (.map #[] 0)).alloc (.map #[] 0)) (.cells (diskC (DM.new room) w.heap.size (w.heap.size + 1) (.slice none 0 0)) 81 (0, 0))
    rw [World.size_alloc, World.size_alloc] at this
    exact this
  refine ⟨lab (lab (lab ρ w.heap.size (ro i 1)) (w.heap.size + 1) (ro i 2)) (w.heap.size + 2) (ro i 0), ⟨fun _ => 0, w.heap.size, w.heap.size + 1, .slice none 0 0, ⟨⟨o2, lab_eq⟩, m0, ?_, m1, ?_, .inl ⟨rfl, rfl⟩, fun g hg => by simp [Value.ownBlock] at hg, fun j hj => by simp [DM.new] at hj, by omega, hb, by omega⟩⟩, ⟨hb0.size, fun k hk => ⟨?_, fun _ => hb0.block k hk⟩⟩, ?_, hb0.mono hb⟩
  · rw [lab_ne (by omega), lab_ne (by omega), lab_eq]
  · rw [lab_ne (by omega), lab_eq]
  · rw [lab_ne (by omega), lab_ne (by omega), lab_ne (by omega)]
  · intro k hk
    simp at hk
    rw [lab_ne (by omega), lab_ne (by omega), lab_ne (by omega)]
    exact hf k (by omega)
def NewEnd (base : Nat) (ρ : Nat → Nat) (i : Nat) (room : Int) (w : World) (e : Ending) (w' : World) : Prop :=
  (¬ (0 ≤ room ∧ room ≤ 67108864) ∧ e = .returned (.tuple #[.pointer none, .int .i64 40]) ∧ w = w') ∨
  ((0 ≤ room ∧ room ≤ 67108864) ∧ ∃ D, e = .returned (.tuple #[.pointer (some ⟨D, 0, none⟩), .int .i64 0]) ∧ DkEnd base ρ i D (DM.new room) w w')
set_option maxRecDepth 100000 in
theorem empty_any (w : World) (base i : Nat) (ρ : Nat → Nat) (room : Int) (hf : Free w ρ) (hb : base ≤ w.heap.size) :
    Calls Try.prog 46 #[.int .i64 room] w fun e w' => e = .returned (.pointer (some ⟨w.heap.size + 2, 0, none⟩)) ∧ DkEnd base ρ i (w.heap.size + 2) (DM.new room) w w' := by
  have hE := disk_new w base i ρ room hf hb
  simp only [diskC, DM.new] at hE
  have HE := Lib.hid hE
  clear hE
  have hmm := @run_makeMap Try.prog
  go_enter Try.func46, Try.ntmps46
  go_wp2
  go_ret
  exact ⟨rfl, HE.out⟩
set_option maxRecDepth 100000 in
theorem new_any (w : World) (base i : Nat) (ρ : Nat → Nat) (room : Int) (hf : Free w ρ) (hb : base ≤ w.heap.size) :
    Calls Try.prog 23 #[.int .i64 room] w (NewEnd base ρ i room w) := by
  have hE := empty_any w base i ρ room hf hb
  have HE := Lib.hid hE
  clear hE
  by_cases h1 : 0 ≤ room
  · have q1 : decide (room < 0) = false := decide_eq_false (by omega)
    by_cases h2 : room ≤ 67108864
    · have q2 : decide ((67108864 : Int) < room) = false := decide_eq_false (by omega)
      have HH := Lib.hid (And.intro h1 h2)
      clear h1 h2
      go_enter Try.func23, Try.ntmps23
      go_wp2_with (go_at_call 46; (with_reducible refine HE.out.mono ?_); rintro e w1 ⟨rfl, hd⟩)
      go_ret2
      exact .inr ⟨HH.out, _, rfl, hd⟩
    · have q2 : decide ((67108864 : Int) < room) = true := decide_eq_true (by omega)
      have HH := Lib.hid h2
      clear h1 h2
      go_enter Try.func23, Try.ntmps23
      go_wp2
      go_ret2
      exact .inl ⟨fun h => by have := HH.out; omega, rfl, rfl⟩
  · have q1 : decide (room < 0) = true := decide_eq_true (by omega)
    have HH := Lib.hid h1
    clear h1
    go_enter Try.func23, Try.ntmps23
    go_wp2
    go_ret2
    exact .inl ⟨fun h => by have := HH.out; omega, rfl, rfl⟩
theorem there_of {w : World} {b o n : Nat} {cs : Array Value} {t : TypeId} (h : w.heap[b]? = some (.cells cs t (0, 0))) (hn : o + n ≤ cs.size) : w.there b o n := fun j hj => by
  refine ⟨?_, free_of_obj h _⟩
  rw [cell_of_obj h, Array.getElem?_eq_getElem (by omega)]
  rfl
def PlanEnd (base : Nat) (ρ : Nat → Nat) (i D : Nat) (d : DM) (p : Pl) (fb : Nat → Nat) (bN bS : Nat) (chv : Value) (w : World) (e : Ending) (w' : World) : Prop :=
  e = .returned (.tuple #[]) ∧ DiskD w' base ρ i D (d.setPlan p) fb bN bS chv ∧ Keeps (fun r => r = ro i 0) w ρ w' ρ ∧ w.heap.size ≤ w'.heap.size ∧ Below base w w'
set_option maxRecDepth 100000 in
set_option maxHeartbeats 2000000 in
theorem plan_any (w : World) (base i D bN bS : Nat) (ρ : Nat → Nat) (d : DM) (fb : Nat → Nat) (chv : Value) (h : DiskD w base ρ i D d fb bN bS chv) (hi : i < 16) (p : Pl) :
    Calls Try.prog 32 #[.pointer (some ⟨D, 0, none⟩), .agg #[.int .i64 p.off, .int .i64 p.full, .int .i64 p.to]] w (PlanEnd base ρ i D d p fb bN bS chv w) := by
  have hlt := lt_of_obj h.obj.1
  have hb1 : Below w.heap.size w (w.alloc (.cells #[.int .i64 p.off, .int .i64 p.full, .int .i64 p.to] 56)) := (Below.refl _ _).alloc (Nat.le_refl _) _
  have h1 := h.below hb1
  have hlt1 := lt_of_obj h1.obj.1
  have c1 := h1.cell 1
  have ht := there_of (o := 7) (n := 3) h1.obj.1 (by simp [diskC])
  have HT := Lib.hid ht
  have hO1 : OnlyB _ ((w.alloc (.cells #[.int .i64 p.off, .int .i64 p.full, .int .i64 p.to] 56)).setCells D 7 [.int .i64 p.off, .int .i64 p.full, .int .i64 p.to]) D _ := ((OnlyB.set (OnlyB.refl h1.obj.1) hlt1 7 (.int .i64 p.off)).set hlt1 8 (.int .i64 p.full)).set hlt1 9 (.int .i64 p.to)
  have b1 := hO1.at_ hlt1
  have c6 := cell_of_obj b1 6
  have f6 := free_of_obj b1 6
  simp only [diskC, List.setIfInBounds_toArray, List.set_cons_zero, List.set_cons_succ, List.getElem?_toArray, List.getElem?_cons_zero, List.getElem?_cons_succ] at c1 c6
  have H := Lib.hid h1
  have HB := Lib.hid (hb1.mono h.base_le)
  have HO1 := Lib.hid hO1
  have HK := Lib.hid (Keeps.below (fun _ => False) ρ hb1)
  cases ho : d.off with
  | true =>
    rw [ho] at c1
    clear h h1 hb1 hO1 b1 c6 f6 ht
    go_enter Try.func32, Try.ntmps32
    go_wp2
    go_end0
    refine ⟨rfl, ?_, HK.out.mono (fun _ h => h.elim), HK.out.1, HB.out⟩
    unfold DM.setPlan
    rw [ho]
    exact H.out
  | false =>
    rw [ho] at c1
    clear h h1 hb1 hO1 b1 ht
    go_enter Try.func32, Try.ntmps32
    go_wp2_with (refine wpList_store_mid rfl 56 (.tmp 13) (.tmp 11) rfl D 7 #[.int .i64 p.off, .int .i64 p.full, .int .i64 p.to] rfl rfl HT.out (by kernel_rfl) (by simp [Value.oneCell']) ?_)
    go_end0
    have hO2 := HO1.out.set hlt1 6 (.int .i64 0)
    have e : Obj.cells ((((((diskC d bN bS chv).setIfInBounds 7 (.int .i64 p.off)).setIfInBounds 8 (.int .i64 p.full)).setIfInBounds 9 (.int .i64 p.to))).setIfInBounds 6 (.int .i64 0)) 81 (0, 0) = .cells (diskC { d with plan := p, count := 0 } bN bS chv) 81 (0, 0) := rfl
    rw [e] at hO2
    obtain ⟨k1, k2, k3, k4⟩ := H.out.put (d' := { d with plan := p, count := 0 }) hi hO2 rfl rfl rfl rfl
    have e2 : d.setPlan p = { d with plan := p, count := 0 } := by unfold DM.setPlan; rw [ho]; rfl
    refine ⟨rfl, by rw [e2]; exact k1, (HK.out.mono (fun _ h => h.elim)).trans k2, by rw [k3]; exact HK.out.1, HB.out.trans k4⟩
end Go.Proofs.Ytgkpobajafjdeaa

/- A range over names: its step; Disk.used. -/
namespace Go.Proofs.Ytgkpobajafjdeaa
open Go.RowKit Go.Maps

/-- What of a list of names has been met: those that are not left. -/
def metSum (left : Lit → Bool) (g : BS × Nat → Nat) (l : NM) : Nat := (l.map fun p => if left (.string p.1) = true then 0 else g p).sum
def strikeL (left : Lit → Bool) (n : BS) : Lit → Bool := fun z => left z && !z.sameKey (.string n)
theorem strike_same (left : Lit → Bool) (n : BS) : strikeL left n (.string n) = false := by simp [strikeL, Lit.sameKey]
theorem strike_other (left : Lit → Bool) {n m : BS} (h : m ≠ n) : strikeL left n (.string m) = left (.string m) := by simp [strikeL, Lit.sameKey, h]
theorem metSum_other (left : Lit → Bool) (g : BS × Nat → Nat) {n : BS} : ∀ {l : NM}, (∀ p ∈ l, p.1 ≠ n) → metSum (strikeL left n) g l = metSum left g l
  | [], _ => rfl
  | y :: r, h => by
    have := metSum_other left g (n := n) (l := r) (fun p hp => h p (by simp [hp]))
    unfold metSum at *
    simp only [List.map_cons, List.sum_cons]
    rw [this, strike_other left (h y (by simp))]
theorem metSum_step (left : Lit → Bool) (g : BS × Nat → Nat) {n : BS} {f : Nat} (hl : left (.string n) = true) : ∀ {l : NM}, NM.Ok l → (n, f) ∈ l → metSum (strikeL left n) g l = metSum left g l + g (n, f)
  | [], _, hm => by cases hm
  | y :: r, h, hm => by
    unfold NM.Ok at h
    rw [List.pairwise_cons] at h
    rcases List.mem_cons.1 hm with e | hm
    · subst e
      have ho := metSum_other left g (n := n) (l := r) (fun p hp e => bs_irrefl p.1 (by have := h.1 p hp; simp only [← e] at this; exact absurd this (bs_irrefl _)))
      unfold metSum at *
      simp only [List.map_cons, List.sum_cons]
      rw [ho, strike_same, hl]
      simp
      omega
    · have ih := metSum_step left g hl (l := r) h.2 hm
      have hne : y.1 ≠ n := fun e => by have := h.1 _ hm; simp only [e] at this; exact absurd this (bs_irrefl _)
      unfold metSum at *
      simp only [List.map_cons, List.sum_cons]
      rw [ih, strike_other left hne]
      omega
theorem metSum_le (left : Lit → Bool) (g : BS × Nat → Nat) : ∀ (l : NM), metSum left g l ≤ (l.map g).sum
  | [] => Nat.le_refl _
  | y :: r => by
    have := metSum_le left g r
    unfold metSum at *
    simp only [List.map_cons, List.sum_cons]
    split <;> omega
theorem metSum_end (left : Lit → Bool) (g : BS × Nat → Nat) (h : ∀ kl, left kl = false) : ∀ (l : NM), metSum left g l = (l.map g).sum
  | [] => rfl
  | y :: r => by
    have := metSum_end left g h r
    unfold metSum at *
    simp only [List.map_cons, List.sum_cons, h]
    rw [← this]
    simp [h]
theorem sum_zeros : ∀ (l : NM), (l.map (fun _ => 0)).sum = 0
  | [] => rfl
  | _ :: r => by simp only [List.map_cons, List.sum_cons, sum_zeros r]
theorem metSum_start (fb : Nat → Nat) (g : BS × Nat → Nat) (l : NM) (hl : NM.Ok l) : metSum (Maps.has (toD fb l)) g l = 0 := by
  unfold metSum
  have : ∀ p ∈ l, (if Maps.has (toD fb l) (.string p.1) = true then 0 else g p) = 0 := fun p hp => by
    rw [toD_has, NM.get_of hl (f := p.2) hp]
    rfl
  rw [List.map_congr_left this]
  exact sum_zeros l
theorem ptrElem_form {v : Value} {y : DataW Unit × List MemPlace} (h : ptrElem v = some y) : ∃ c : Option Nat, v = .pointer (c.map fun b => ⟨b, 0, none⟩) := by
  rcases ptrElem_inv h with ⟨rfl, _⟩ | ⟨b, rfl, _⟩
  · exact ⟨none, rfl⟩
  · exact ⟨some b, rfl⟩
set_option maxRecDepth 100000 in
/-- The step of a range over names. -/
theorem wpList_next_names (w : World) {ops : Array Oper} {rest : List Oper} {o : Oper} {a : Act} {Q : Exit → Act → World → Prop} (hg : o.guard = none) (it : Operand) (hop : o.op = Op.next it false)
    (b r n : Nat) (fb : Nat → Nat) (l : NM) (left : Lit → Bool) (cnt : Nat) (hit : a.eval it = .pointer (some ⟨r, 0, none⟩)) (h : w.ranges Try.prog 9 ptrElem b r n (toD fb l) left cnt)
    (hDone : (∀ kl, left kl = false) → wpList Try.prog ops Q rest (a.put o.dst (.tuple #[.bool false])) w)
    (hMore : ∀ (m : BS) (f : Nat) (w' : World) (cnt' : Nat), (m, f) ∈ l → left (.string m) = true → (str m).size ≤ maxLen → w'.ranges Try.prog 9 ptrElem b r n (toD fb l) (strikeL left m) cnt' → cnt' < cnt → w.grownBy w' (some r) → w'.heap.size = w.heap.size →
      (Instr.entry (.pointer (some ⟨r, 0, none⟩))).run Try.prog w' = .ok (.tuple #[.string (str m), .pointer (some ⟨fb f, 0, none⟩)]) w' → wpList Try.prog ops Q rest (a.put o.dst (.tuple #[.bool true, .string (str m), .pointer (some ⟨fb f, 0, none⟩)])) w') :
    wpList Try.prog ops Q (o :: rest) a w := by
  refine wpList_next_ranges w hg it hop 9 keyS ptrElem Value.string (fun c : Option Nat => Value.pointer (c.map fun b => ⟨b, 0, none⟩)) ?_ (fun v y hv => ptrElem_form hv) b r n (toD fb l) left cnt hit h (fun _ hl => hDone hl) ?_
  · intro key kl hk
    obtain ⟨s, rfl, _⟩ := WideMaps.string_of_keyOf Try.underlying9 hk
    exact ⟨s, rfl⟩
  · intro s c kl y w' cnt' hkey hlk hv hat hrg hlt hgr hsz hen
    obtain ⟨s', e1, e2, hs⟩ := WideMaps.string_of_keyOf Try.underlying9 hkey
    injection e1 with e1
    subst e1 e2
    cases hget : NM.get l s.data.toList with
    | none =>
      have h1 := hat .nil
      have h2 := hat (.lit (.bool true))
      unfold toD DataW.atKey at h1 h2
      simp only [toD_find] at h1 h2
      unfold NM.get at hget
      cases hf : l.find? (fun p => p.1 == s.data.toList) with
      | none => rw [hf] at h1 h2; simp at h1 h2; rw [← h1] at h2; cases h2
      | some p => rw [hf] at hget; cases hget
    | some f =>
      have h1 := hat .nil
      rw [toD_at, hget] at h1
      obtain rfl : c = some (fb f) := by
        rcases ptrElem_inv hv with ⟨_, e⟩ | ⟨b', e1, e⟩
        · rw [e] at h1; cases h1
        · rw [e] at h1
          injection h1 with h1
          injection h1 with _ h1
          have hb : fb f = b' := by omega
          subst hb
          cases c with
          | none => cases e1
          | some x =>
            injection e1 with e1
            injection e1 with e1
            injection e1 with e1
            rw [e1]
      have hm := NM.get_mem hget
      have hstr := str_list s
      have := hMore s.data.toList f w' cnt' hm hlk (by rw [hstr]; exact hs) hrg hlt hgr hsz (by rw [hstr]; exact hen)
      rw [hstr] at this
      exact this
end Go.Proofs.Ytgkpobajafjdeaa

/- Disk.used, Disk.Size. -/
namespace Go.Proofs.Ytgkpobajafjdeaa
open Go.RowKit Go.Maps

/-- The lengths that names lead to. -/
def gLen (d : DM) (p : BS × Nat) : Nat := (d.file p.2).seen.length
def UsedRel (w : World) (d : DM) (fb : Nat → Nat) (bN : Nat) (nv : Value) (wr : World) : Prop :=
  ∃ left cnt, wr.ranges Try.prog 9 ptrElem bN w.heap.size d.names.length (toD fb d.names) left cnt ∧ nv = .int .i64 (metSum left (gLen d) d.names : Nat) ∧ Below w.heap.size w wr
theorem used_eq (d : DM) : (d.names.map (gLen d)).sum = d.used := rfl
theorem grown_row {w wr w' : World} {r : Nat} (hb : Below w.heap.size w wr) (hg : wr.grownBy w' (some r)) (hr : w.heap.size ≤ r) : Below w.heap.size w w' := hb.grown hg hb.size (fun q hq => by cases hq; exact hr)
set_option maxRecDepth 100000 in
set_option maxHeartbeats 1000000 in
theorem used_any (w : World) (base i D bN bS : Nat) (ρ : Nat → Nat) (d : DM) (fb : Nat → Nat) (chv : Value) (h : DiskD w base ρ i D d fb bN bS chv) (hok : NM.Ok d.names) (hidx : ∀ p ∈ d.names, p.2 < d.files.length) (hu : d.used ≤ 1000000000000) :
    Calls Try.prog 55 #[.pointer (some ⟨D, 0, none⟩)] w fun e w' => e = .returned (.int .i64 (d.used : Nat)) ∧ Below w.heap.size w w' := by
  have c2 := h.cell 2
  simp only [diskC, List.getElem?_toArray, List.getElem?_cons_zero, List.getElem?_cons_succ] at c2
  have hm := h.names
  have H := Lib.hid h
  have HI := Lib.hid hidx
  have HO := Lib.hid hok
  have HU := Lib.hid hu
  unfold MapAt at hm
  clear h hidx hok hu
  go_enter Try.func55, Try.ntmps55
  go_wp2_with (first | (at_range; refine wpList_range_own _ rfl _ 78 rfl 9 72 keyS Try.underlying78 ptrElem bN d.names.length (toD fb d.names) rfl hm ?_; intro w0 hrg0 hg0 hs0) | go_in)
  go_frame
  go_loopw [3] (fun nv wr => UsedRel w d fb bN nv wr) (fun _ wr => wr.rangeLeft bN w.heap.size)
  case atStart => exact ⟨_, _, hrg0, by rw [metSum_start fb _ _ HO.out]; rfl, (Below.refl w.heap.size w).grown hg0 (Nat.le_refl _) (fun q hq => by cases hq)⟩
  case round =>
    clear hrg0 hg0 hs0 c2 hm
    obtain ⟨left, cnt, hrg, rfl, hb⟩ := hrel
    have HB := Lib.hid hb
    have hle := Nat.le_trans (metSum_le left (gLen d) d.names) HU.out
    clear hb
    go_wp2_with (first | (at_next; refine wpList_next_names _ rfl _ rfl bN w.heap.size _ fb d.names left cnt rfl hrg ?_ ?_) | go_in)
    · intro hl0
      have he := metSum_end left (gLen d) hl0 d.names
      rw [he]
      rw [used_eq]
      clear he hle
      go_wp2
      go_ret
      exact ⟨rfl, HB.out⟩
    · intro m f w' cnt' hmem hlm hsz hrg1 hlt hgr hs1 hen
      have hb' := grown_row HB.out hgr (Nat.le_refl _)
      obtain ⟨kv, uv, sv, hf⟩ := H.out.files f (HI.out _ hmem)
      have hf' := hf.keep (Keeps.below (fun _ => False) ρ hb') (fun _ _ => id)
      obtain ⟨A, cap, rfl, _⟩ := hf'.seen.len
      have c2 := cell_of_obj hf'.obj.1 2
      simp only [List.getElem?_toArray, List.getElem?_cons_zero, List.getElem?_cons_succ] at c2
      have hstep := metSum_step left (gLen d) hlm HO.out hmem
      have hle2 := Nat.le_trans (metSum_le (strikeL left m) (gLen d) d.names) HU.out
      have HL := Lib.hid hlt
      have HE := Lib.hid hrg.left_eq
      have HR := Lib.hid hrg1
      have HB' := Lib.hid hb'
      obtain ⟨g, hg⟩ : ∃ g, (d.file f).seen.length = g := ⟨_, rfl⟩
      obtain ⟨S, hS⟩ : ∃ S, metSum left (gLen d) d.names = S := ⟨_, rfl⟩
      have hst : metSum (strikeL left m) (gLen d) d.names = S + g := by rw [hstep, hS]; show S + (d.file f).seen.length = _; rw [hg]
      rw [hst] at hle2
      rw [hS]
      rw [hg] at c2
      have HS := Lib.hid hst
      clear hf hf' hstep hle hlt hrg hrg1 hb' hlm hmem hsz hgr hs1 hg hS hst
      go_wp2
      have hz := HR.out.left_eq
      have hlt := HL.out
      refine ⟨⟨strikeL left m, cnt', HR.out, by rw [HS.out]; go_num, HB'.out⟩, by rw [hz, HE.out]; exact hlt⟩
/-- What is seen under a name. -/
def DM.bytes (d : DM) (n : BS) : BS := if d.err n = 0 then (match d.names.get n with | some f => (d.file f).seen | none => []) else []
theorem bytes_some {d : DM} {n : BS} {f : Nat} (h : d.err n = 0) (hf : d.names.get n = some f) : d.bytes n = (d.file f).seen := by unfold DM.bytes; rw [if_pos h, hf]
theorem bytes_err {d : DM} {n : BS} (h : d.err n ≠ 0) : d.bytes n = [] := if_neg h
/-- find tells a file's block, or an error. -/
theorem find_cases (d : DM) (fb : Nat → Nat) (n : BS) : (d.err n ≠ 0 ∧ findV d fb n = .pointer none ∧ (d.err n = 45 ∨ d.err n = 41 ∨ d.err n = 42)) ∨ (d.err n = 0 ∧ ∃ f, d.names.get n = some f ∧ findV d fb n = .pointer (some ⟨fb f, 0, none⟩)) := by
  unfold findV
  rcases err_cases d n with ⟨_, e⟩ | ⟨_, _, e⟩ | ⟨_, _, _, e⟩ | ⟨_, _, ⟨f, hf⟩, e⟩
  · rw [e]; exact .inl ⟨by decide, rfl, .inl rfl⟩
  · rw [e]; exact .inl ⟨by decide, rfl, .inr (.inl rfl)⟩
  · rw [e]; exact .inl ⟨by decide, rfl, .inr (.inr rfl)⟩
  · rw [e]
    refine .inr ⟨rfl, f, hf, ?_⟩
    rw [if_pos rfl]
    unfold lookV
    rw [hf]
set_option maxRecDepth 100000 in
theorem size_any (w : World) (base i D bN bS : Nat) (ρ : Nat → Nat) (d : DM) (fb : Nat → Nat) (chv : Value) (h : DiskD w base ρ i D d fb bN bS chv) (hidx : ∀ p ∈ d.names, p.2 < d.files.length) (s : ByteArray) (hs : s.size ≤ maxLen) :
    Calls Try.prog 18 #[.pointer (some ⟨D, 0, none⟩), .string s] w fun e w' => e = .returned (.tuple #[.int .i64 ((d.bytes s.data.toList).length : Nat), .int .i64 (d.err s.data.toList)]) ∧ w = w' := by
  have hF := find_any w base i D bN bS ρ d fb chv h s hs
  rcases find_cases d fb s.data.toList with ⟨e1, e2, e3⟩ | ⟨e1, f, e2, e3⟩
  · rw [bytes_err e1]
    rw [e2] at hF
    obtain ⟨er, her⟩ : ∃ er, d.err s.data.toList = er := ⟨_, rfl⟩
    rw [her] at hF e1 ⊢
    have q1 : (er != 0) = true := by simp [bne, e1]
    have HF := Lib.hid hF
    clear h hF e1 e2 e3 her
    go_enter Try.func18, Try.ntmps18
    go_wp2_with (go_at_call 41; (with_reducible refine HF.out.mono ?_); rintro e w1 ⟨rfl, rfl⟩)
    go_ret2
    exact ⟨rfl, rfl⟩
  · rw [bytes_some e1 e2, e1]
    rw [e3, e1] at hF
    obtain ⟨kv, uv, sv, hf⟩ := h.files f (hidx _ (NM.get_mem e2))
    obtain ⟨A, cap, rfl, _⟩ := hf.seen.len
    have c2 := cell_of_obj hf.obj.1 2
    simp only [List.getElem?_toArray, List.getElem?_cons_zero, List.getElem?_cons_succ] at c2
    have HF := Lib.hid hF
    clear h hF e1 e2 e3 hf hidx
    go_enter Try.func18, Try.ntmps18
    go_wp2_with (go_at_call 41; (with_reducible refine HF.out.mono ?_); rintro e w1 ⟨rfl, rfl⟩)
    go_ret2
    exact ⟨rfl, rfl⟩
end Go.Proofs.Ytgkpobajafjdeaa

/- Disk.Read, tallyref0.Copy: bytes in new memory. -/
namespace Go.Proofs.Ytgkpobajafjdeaa
open Go.RowKit Go.Maps

theorem info_u8 : (Try.prog.info? 5).map (fun i => (i.zero, i.size, i.bytes)) = some (some (.int .u8 0), 1, 1) := by kernel_rfl
/-- Bytes that were told: a list of the call's own. -/
def Told (w w' : World) (v : Value) (b : BS) : Prop := One w' w.heap.size 5 1 v b.length (cB b) ∧ Below w.heap.size w w'
theorem cB_map (b : BS) : (List.range b.length).map (cB b) = b.map byteV := by
  apply List.ext_getElem?
  intro k
  by_cases hk : k < b.length
  · rw [List.getElem?_map, List.getElem?_range hk, List.getElem?_map, List.getElem?_eq_getElem hk]
    simp [cB, List.getElem?_eq_getElem hk]
  · rw [List.getElem?_eq_none (by simp; omega), List.getElem?_eq_none (by simp; omega)]
/-- The bytes of a list, as a source to copy from. -/
def SrcAt (w : World) (sp : Option Addr) (b : BS) : Prop := 0 < b.length → ∃ ad, sp = some ad ∧ ∀ j v, (b.map byteV)[j]? = some v → w.cell? (ad.add j) = some v
theorem One.src {w : World} {base cap : Nat} {A : Option Addr} {b : BS} (h : One w base 5 1 (.slice A b.length cap) b.length (cB b)) : SrcAt w A b := fun hn => by
  obtain ⟨g, rfl, _⟩ := h.getN hn (k := 0) (by omega)
  refine ⟨_, rfl, fun j v hj => ?_⟩
  have hjl : j < b.length := by
    rcases Nat.lt_or_ge j b.length with h | h
    · exact h
    · rw [List.getElem?_eq_none (by simpa using h)] at hj; cases hj
  obtain ⟨g', e, hc⟩ := h.getN hn (k := j) (by omega)
  injection e with e
  injection e with e
  subst e
  rw [List.getElem?_map, List.getElem?_eq_getElem hjl] at hj
  simp at hj
  subst hj
  have : cB b j = byteV b[j] := cB_at (List.getElem?_eq_getElem hjl)
  rw [this] at hc
  by_cases h0 : j = 0 <;> simpa [Addr.add, h0] using hc
theorem SrcAt.below {w w' : World} {sp : Option Addr} {b : BS} (h : SrcAt w sp b) (hb : Below w.heap.size w w') : SrcAt w' sp b := fun hn => by
  obtain ⟨ad, e, hc⟩ := h hn
  exact ⟨ad, e, fun j v hj => cellKeep hb (hc j v hj)⟩
theorem byteV_one (b : BS) : ∀ v ∈ b.map byteV, v.oneCell' = true := fun v hv => by
  obtain ⟨x, _, rfl⟩ := List.mem_map.1 hv
  rfl
/-- A new list, copied over whole. -/
theorem told_of {w w2 : World} {g n : Nat} {b : BS} {cur : List Value} (hn : b.length = n) (hc : cur.length = n) (hg : w.heap.size ≤ g) (h : w2.heap[g]? = some (.cells (splice cur 0 (b.map byteV)).toArray 5 (0, 0))) (hb : Below w.heap.size w w2) (hm : n ≤ maxLen) : Told w w2 (.slice (some ⟨g, 0, none⟩) n n) b := by
  refine ⟨.inr ⟨g, n, _, by rw [hn], hg, h, by omega, hm, ?_, fun k hk => ?_⟩, hb⟩
  · simp [splice]; omega
  · have e : splice cur 0 (b.map byteV) = b.map byteV := by
      unfold splice
      rw [List.drop_eq_nil_of_le (by simp; omega)]
      simp
    rw [e]
    have hk' : k < b.length := by omega
    simp [cB, List.getElem?_eq_getElem hk']
theorem own_row {w w' : World} {n : Nat} {cs : List Value} (h : w'.ownsRow w.heap.size 5 1 (.slice (some ⟨w.heap.size, 0, none⟩) n n) n cs) : ∃ cur : List Value, cur.length = n ∧ w'.heap[w.heap.size]? = some (.cells cur.toArray 5 (0, 0)) := by
  rcases h.2 with ⟨h1, _⟩ | ⟨g, cap, cur, h1, h2, h3, h4, h5, h6, _⟩
  · cases h1
  · injection h1 with h1 _ h8
    injection h1 with h1
    injection h1 with h1
    subst h1 h8
    exact ⟨cur.toList, by simp; omega, by simpa using h3⟩
set_option maxRecDepth 100000 in
set_option maxHeartbeats 1000000 in
theorem copy0_any (w : World) (A : Option Addr) (n cap : Nat) (b : BS) (hn : b.length = n) (hs : SrcAt w A b) (hm : n ≤ 140737488351232) :
    Calls Try.prog 28 #[.slice A n cap] w fun e w' => ∃ g, e = .returned (.slice (some ⟨g, 0, none⟩) n n) ∧ Told w w' (.slice (some ⟨g, 0, none⟩) n n) b := by
  obtain ⟨k0, hkk, kz0, kz1, kz2⟩ := info_parts info_u8
  have hsz : (Try.prog.info? 5).map (·.size) = some 1 := by kernel_rfl
  have HN := Lib.hid hn
  have HS := Lib.hid hs
  clear hn hs
  go_enter Try.func28, Try.ntmps28
  go_wp2_with (first | (refine wpList_make_full _ rfl (.tmp 5) (.tmp 5) 26 rfl w.heap.size 5 k0 (.int .u8 0) 1 Try.underlying26 hkk kz0 kz1 .i64 .i64 n n n rfl rfl rfl rfl (by rw [kz2]; omega) (by unfold maxLen; omega) (Nat.le_refl _) ?_; intro w1 hown1 hgrow1; obtain ⟨cur, hcl, hcb⟩ := own_row hown1; have hb1 := (Below.refl w.heap.size w).grown hgrow1 (Nat.le_refl _) (fun q hq => by cases hq); have HS1 := HS.out.below hb1) | (refine wpList_copy_splice rfl (.tmp 7) (.tmp 8) 26 26 rfl 5 Try.underlying26 hsz (some ⟨w.heap.size, 0, none⟩) A n n n cap rfl rfl w.heap.size 0 cur 5 hcb (b.map byteV) (by simp [HN.out]) (fun hp => ⟨rfl, HS1 (by simpa using hp)⟩) (by simp [HN.out, hcl]) (byteV_one b) w.heap.size w hb1 (Nat.le_refl _) ?_; intro w2 hg2 hb2))
  go_ret
  exact ⟨_, rfl, told_of HN.out hcl (Nat.le_refl _) hg2.out hb2 (by unfold maxLen; omega)⟩
end Go.Proofs.Ytgkpobajafjdeaa

/- Disk.Read; slices.Clone of bytes. -/
namespace Go.Proofs.Ytgkpobajafjdeaa
open Go.RowKit Go.Maps

def ReadEnd (d : DM) (n : BS) (w : World) (e : Ending) (w' : World) : Prop :=
  ∃ A cap, e = .returned (.tuple #[.slice A (d.bytes n).length cap, .int .i64 (d.err n)]) ∧ Told w w' (.slice A (d.bytes n).length cap) (d.bytes n)
set_option maxRecDepth 100000 in
set_option maxHeartbeats 1000000 in
theorem read_any (w : World) (base i D bN bS : Nat) (ρ : Nat → Nat) (d : DM) (fb : Nat → Nat) (chv : Value) (h : DiskD w base ρ i D d fb bN bS chv) (hidx : ∀ p ∈ d.names, p.2 < d.files.length) (s : ByteArray) (hs : s.size ≤ maxLen) (hm : (d.bytes s.data.toList).length ≤ 140737488351232) :
    Calls Try.prog 17 #[.pointer (some ⟨D, 0, none⟩), .string s] w (ReadEnd d s.data.toList w) := by
  have hF := find_any w base i D bN bS ρ d fb chv h s hs
  rcases find_cases d fb s.data.toList with ⟨e1, e2, e3⟩ | ⟨e1, f, e2, e3⟩
  · have e4 := bytes_err e1
    unfold ReadEnd
    rw [e4]
    rw [e2] at hF
    obtain ⟨er, her⟩ : ∃ er, d.err s.data.toList = er := ⟨_, rfl⟩
    rw [her] at hF e1 ⊢
    have q1 : (er != 0) = true := by simp [bne, e1]
    have HF := Lib.hid hF
    clear h hF e1 e2 e3 e4 her hm
    go_enter Try.func17, Try.ntmps17
    go_wp2_with (go_at_call 41; (with_reducible refine HF.out.mono ?_); rintro e w1 ⟨rfl, rfl⟩)
    go_ret2
    exact ⟨none, 0, rfl, .inl ⟨rfl, rfl⟩, Below.refl _ _⟩
  · have e4 := bytes_some e1 e2
    unfold ReadEnd
    rw [e1]
    rw [e3, e1] at hF
    obtain ⟨kv, uv, sv, hf⟩ := h.files f (hidx _ (NM.get_mem e2))
    have hsn := hf.seen
    rw [← e4] at hsn
    obtain ⟨A, cap, rfl, _⟩ := hsn.len
    have hsrc := hsn.1.src
    have hob := hf.obj.1
    clear hf hsn
    obtain ⟨b, hb⟩ : ∃ b, d.bytes s.data.toList = b := ⟨_, rfl⟩
    rw [hb] at hob hsrc hm ⊢
    obtain ⟨n, hn⟩ : ∃ n, b.length = n := ⟨_, rfl⟩
    have c2 := cell_of_obj hob 2
    rw [hn] at hm c2 hob ⊢
    simp only [List.getElem?_toArray, List.getElem?_cons_zero, List.getElem?_cons_succ] at c2
    have HF := Lib.hid hF
    have HS := Lib.hid hsrc
    have HN := Lib.hid hn
    have HOB := Lib.hid hob
    obtain ⟨k0, hkk, kz0, kz1, kz2⟩ := info_parts info_u8
    have hsz : (Try.prog.info? 5).map (·.size) = some 1 := by kernel_rfl
    clear h hF e1 e2 e3 e4 hidx hsrc hb hn hob
    go_enter Try.func17, Try.ntmps17
    go_wp2_with (first | (go_at_call 41; (with_reducible refine HF.out.mono ?_); rintro e w1 ⟨rfl, rfl⟩) | (refine wpList_make_full _ rfl (.tmp 22) (.tmp 22) 26 rfl w.heap.size 5 k0 (.int .u8 0) 1 Try.underlying26 hkk kz0 kz1 .i64 .i64 n n n rfl rfl rfl rfl (by rw [kz2]; omega) (by unfold maxLen; omega) (Nat.le_refl _) ?_; intro w1 hown1 hgrow1; obtain ⟨cur, hcl, hcb⟩ := own_row hown1; have hb1 := (Below.refl w.heap.size w).grown hgrow1 (Nat.le_refl _) (fun q hq => by cases hq); have HS1 := HS.out.below hb1; have c2 := cellKeep hb1 c2) | (refine wpList_copy_splice rfl (.tmp 24) (.tmp 28) 26 26 rfl 5 Try.underlying26 hsz (some ⟨w.heap.size, 0, none⟩) A n n n cap rfl rfl w.heap.size 0 cur 5 hcb (b.map byteV) (by simp [HN.out]) (fun hp => ⟨rfl, HS1 (by simpa using hp)⟩) (by simp [HN.out, hcl]) (byteV_one b) w.heap.size w hb1 (Nat.le_refl _) ?_; intro w2 hg2 hb2))
    go_ret2
    exact ⟨_, _, rfl, told_of HN.out hcl (Nat.le_refl _) hg2.out hb2 (by unfold maxLen; omega)⟩
def CloneEnd (b : BS) (w : World) (e : Ending) (w' : World) : Prop :=
  ∃ A cap, e = .returned (.slice A b.length cap) ∧ Told w w' (.slice A b.length cap) b
end Go.Proofs.Ytgkpobajafjdeaa

/- Append of bytes to bytes of one's own; slices.Clone of bytes. -/
namespace Go.Proofs.Ytgkpobajafjdeaa
open Go.RowKit Go.Maps

theorem grownBy_refl (w : World) (row : Option Nat) : w.grownBy w row := ⟨rfl, rfl, rfl, Nat.le_refl _, fun _ _ _ => rfl⟩
theorem row_cB (b : BS) : (List.range (b.length * 1)).map (cB b) = b.map byteV := by rw [Nat.mul_one]; exact cB_map b
theorem One.bytes {w : World} {base n : Nat} {v : Value} {b : BS} (h : w.ownsRow base 5 1 v n (b.map byteV)) (hn : b.length = n) : One w base 5 1 v n (cB b) := by
  subst hn
  refine One.of ?_
  rw [row_cB]
  exact h
set_option maxRecDepth 100000 in
/-- Append of all bytes of a list. -/
theorem append_bytes (w : World) (base ty : Nat) (v0 : Value) (x : BS) (h0 : One w base 5 1 v0 x.length (cB x)) (A : Option Addr) (cp : Nat) (b : BS) (hs : SrcAt w A b) (hnil : A = none → b.length = 0 ∧ cp = 0) (hn : x.length + b.length ≤ 140737488355328) (hbase : base ≤ w.heap.size) :
    ∃ v' w', (Builtin.append_ #[26, 26] ty #[v0, .slice A b.length cp]).run Try.prog w = .ok v' w' ∧ One w' base 5 1 v' (x ++ b).length (cB (x ++ b)) ∧ w.grownBy w' v0.ownBlock ∧ (v'.ownBlock = v0.ownBlock ∨ v'.ownBlock = some w.heap.size) := by
  obtain ⟨k0, hkk, kz0, kz1, kz2⟩ := info_parts info_u8
  have hown := h0.own
  rw [row_cB] at hown
  cases A with
  | none =>
    obtain ⟨hz, rfl⟩ := hnil rfl
    obtain rfl : b = [] := List.eq_nil_of_length_eq_zero hz
    refine ⟨v0, w, ?_, by simpa using h0, grownBy_refl _ _, .inl rfl⟩
    exact run_append_owned_none (P := Try.prog) (w := w) base 26 ty 5 k0 1 Try.underlying26 hkk v0 _ _ hown
  | some ad =>
    have hnews : ∀ j u, (b.map byteV)[j]? = some u → w.cell? (ad.add j) = some u := fun j u hj => by
      have hb : 0 < b.length := by
        rcases Nat.eq_zero_or_pos b.length with h | h
        · rw [List.getElem?_eq_none (by simp; omega)] at hj; cases hj
        · exact h
      obtain ⟨ad', e, hc⟩ := hs hb
      injection e with e
      subst e
      exact hc j u hj
    obtain ⟨v', w', r1, r2, r3, _, r5⟩ := run_append_own_at (P := Try.prog) (w := w) base 26 ty 5 k0 (.int .u8 0) 1 1 Try.underlying26 hkk kz0 kz1 kz2 rfl (by decide) v0 _ _ hown ad b.length cp (b.map byteV) (by simp) hnews (byteV_one b) (by unfold maxLen; omega) (by omega) hbase
    refine ⟨v', w', r1, ?_, r3, r5⟩
    rw [← List.map_append] at r2
    rw [List.length_append]
    exact One.bytes r2 (by simp)
/-- The law at an operation's place: an append whose run is known. -/
theorem wpList_append_by {P : Program} {w : World} {ops : Array Oper} {rest : List Oper} {o : Oper} {a : Act} {Q : Exit → Act → World → Prop} (hgd : o.guard = none) (s x : Operand) (t : TypeId)
    (ho : o.op = .call { callee := .builtin .append, args := #[s, x], argTypes := #[t, t] }) {vs vx v' : Value} {w' : World} (hs : a.eval s = vs) (hx : a.eval x = vx)
    (hr : (Builtin.append_ #[t, t] o.type #[vs, vx]).run P w = .ok v' w') (h : wpList P ops Q rest (a.put o.dst v') w') : wpList P ops Q (o :: rest) a w :=
  wpList_plain hgd fun _ hK => by
    unfold Oper.wp execOp
    simp only [ho, resolve, invoke, builtin, Sem.run_bind, Sem.run_pure, Result.andThen_ok, List.map_toArray, List.map_cons, List.map_nil, hs, hx, hr]
    exact hK _ _ h
set_option maxRecDepth 100000 in
set_option maxHeartbeats 1000000 in
theorem clone_any (w : World) (A : Option Addr) (n cap : Nat) (b : BS) (hn : b.length = n) (hs : SrcAt w A b) (hnil : A = none → b.length = 0 ∧ cap = 0) (hm : n ≤ 140737488351232) :
    Calls Try.prog 38 #[.slice A n cap] w (CloneEnd b w) := by
  cases A with
  | none =>
    obtain ⟨hz, rfl⟩ := hnil rfl
    obtain rfl : n = 0 := by omega
    obtain rfl : b = [] := List.eq_nil_of_length_eq_zero hz
    have he : ∀ w, (binOp .eql 26 (.slice none 0 0) (.slice none 0 0)).run Try.prog w = .ok (.bool true) w := fun w => by
      simp only [binOp]
      simp [run_equal_slice_nil w _ _ _ _ _ Try.underlying26]
    go_enter Try.func38, Try.ntmps38
    go_wp2
    go_ret
    exact ⟨none, 0, rfl, .inl ⟨rfl, rfl⟩, Below.refl _ _⟩
  | some a =>
    have he : ∀ w, (binOp .eql 26 (.slice (some a) n cap) (.slice none 0 0)).run Try.prog w = .ok (.bool false) w := fun w => by
      simp only [binOp]
      simp [run_equal_slice_nil w _ _ _ _ _ Try.underlying26]
    have hb : Below w.heap.size w (w.alloc (.cells #[] 5)) := (Below.refl _ _).alloc (Nat.le_refl _) _
    have hE : One (w.alloc (.cells #[] 5)) w.heap.size 5 1 (.slice (some ⟨w.heap.size, 0, none⟩) 0 0) ([] : BS).length (cB []) := .inr ⟨w.heap.size, 0, #[], rfl, Nat.le_refl _, heap_alloc_new w _, Nat.le_refl _, by unfold maxLen; omega, rfl, fun k hk => by simp at hk⟩
    obtain ⟨v', w', r1, r2, r3, r4⟩ := append_bytes _ w.heap.size 26 _ [] hE (some a) cap b (hs.below hb) (fun h => by cases h) (by simp; omega) (by simp)
    rw [hn] at r1
    simp only [List.nil_append] at r2
    obtain ⟨A', c', rfl, _⟩ := r2.len2
    have HR := Lib.hid r1
    have H2 := Lib.hid r2
    have hb2 : Below w.heap.size w w' := hb.grown r3 (by simp) (fun q hq => by
      have e : w.heap.size = q := by simpa [Value.ownBlock] using hq
      omega)
    have HB2 := Lib.hid hb2
    clear r1 r2 r3 r4 hE hb hs hnil hb2
    go_enter Try.func38, Try.ntmps38
    go_wp2_with (at_builtin; refine wpList_append_by rfl (.tmp 5) (.tmp 6) 26 rfl rfl rfl HR.out ?_)
    go_ret
    exact ⟨A', c', by rw [hn]; rfl, H2.out, HB2.out⟩
end Go.Proofs.Ytgkpobajafjdeaa

/- disk.play: name changes carried out on a map. -/
namespace Go.Proofs.Ytgkpobajafjdeaa
open Go.RowKit Go.Maps

def Ch.can (l : NM) : Ch → Prop
  | .makes _ _ => True
  | .renames n _ => (l.get n).isSome = true
  | .removes _ => True
def Ch.fits : Ch → Prop
  | .makes n _ => n.length ≤ 64
  | .renames n t => n.length ≤ 64 ∧ t.length ≤ 64
  | .removes n => n.length ≤ 64
/-- These changes may be carried out one by one. -/
structure PlayOk (l : NM) (cs : List Ch) : Prop where
  step : ∀ (k : Nat) (c : Ch), cs[k]? = some c → c.can (play l (cs.take k)) ∧ c.fits
  len : ∀ (k : Nat), (play l (cs.take k)).length < 1000000
def ChAt (w : World) (fb : Nat → Nat) (A : Option Addr) (cs : List Ch) : Prop := ∀ (k : Nat) (c : Ch), cs[k]? = some c → ∃ g off, A = some ⟨g, off, none⟩ ∧ ∀ j, j < 4 → w.cell? ⟨g, off + k * 4 + j, none⟩ = some (c.cell fb j)
theorem play_next {l : NM} {cs : List Ch} {k : Nat} {c : Ch} (h : cs[k]? = some c) : play l (cs.take (k + 1)) = Ch.on (play l (cs.take k)) c := by
  have hk : k < cs.length := (List.getElem?_eq_some_iff.1 h).1
  have e : cs.take (k + 1) = cs.take k ++ [c] := by
    rw [List.take_add_one, h]; rfl
  unfold play
  rw [e, List.foldl_append]
  rfl
theorem map_cell {w : World} {b : Nat} {fb : Nat → Nat} {l : NM} (h : MapAt w b fb l) {o : Nat} {v : Value} : w.cell? ⟨b, o, none⟩ ≠ some v := by
  obtain ⟨es, clock, hb, _⟩ := h
  simp [World.cell?, hb]
theorem grown_cell {w w' : World} {b : Nat} {fb : Nat → Nat} {l : NM} (h : MapAt w b fb l) (hg : w.grownBy w' (some b)) {g o : Nat} {v : Value} (hc : w.cell? ⟨g, o, none⟩ = some v) : w'.cell? ⟨g, o, none⟩ = some v := by
  have hne : g ≠ b := fun e => map_cell h (e ▸ hc)
  have hlt : g < w.heap.size := by
    rcases Nat.lt_or_ge g w.heap.size with h | h
    · exact h
    · rw [show w.cell? ⟨g, o, none⟩ = none by simp [World.cell?, Array.getElem?_eq_none h]] at hc; cases hc
  rw [← hc]
  exact World.cell?_of_block (hg.block g hlt (fun e => hne (Option.some.inj e)))
theorem str_size (n : BS) (h : n.length ≤ 64) : (str n).size ≤ maxLen := by
  have : (str n).size = n.length := rfl
  unfold maxLen
  omega
theorem only_grown {w w' : World} {b : Nat} {o : Obj} (h : OnlyB w w' b o) : w.grownBy w' (some b) := ⟨h.os, h.tape, h.output, Nat.le_of_eq h.size.symm, fun k _ hk => h.far (fun e => hk (by rw [e]))⟩
theorem grown_trans {a b c : World} {r : Nat} (h : a.grownBy b (some r)) (k : b.grownBy c (some r)) : a.grownBy c (some r) := h.andThen k (fun _ hj => .inr hj)
theorem grown_alloc (w : World) (o : Obj) (r : Nat) : w.grownBy (w.alloc o) (some r) := (World.grownBy_alloc w o none).but _
theorem wpList_delete_by {P : Program} {w : World} {ops : Array Oper} {rest : List Oper} {o : Oper} {a : Act} {Q : Exit → Act → World → Prop} (hgd : o.guard = none) (s x : Operand) (t u : TypeId)
    (ho : o.op = .call { callee := .builtin .delete, args := #[s, x], argTypes := #[t, u] }) {vs vx v' : Value} {w' : World} (hs : a.eval s = vs) (hx : a.eval x = vx)
    (hr : (Builtin.delete_ #[t, u] o.type #[vs, vx]).run P w = .ok v' w') (h : wpList P ops Q rest (a.put o.dst v') w') : wpList P ops Q (o :: rest) a w :=
  wpList_plain hgd fun _ hK => by
    unfold Oper.wp execOp
    simp only [ho, resolve, invoke, builtin, Sem.run_bind, Sem.run_pure, Result.andThen_ok, List.map_toArray, List.map_cons, List.map_nil, hs, hx, hr]
    exact hK _ _ h
def PlayRel (w : World) (b : Nat) (fb : Nat → Nat) (l : NM) (cs : List Ch) (iv : Value) (wr : World) : Prop := ∃ k : Nat, iv = .int .i64 k ∧ k ≤ cs.length ∧ MapAt wr b fb (play l (cs.take k)) ∧ w.grownBy wr (some b)
def PlayEnd (b : Nat) (fb : Nat → Nat) (l : NM) (w : World) (e : Ending) (w' : World) : Prop := e = .returned (.tuple #[]) ∧ MapAt w' b fb l ∧ w.grownBy w' (some b)
set_option maxRecDepth 100000 in
set_option maxHeartbeats 2000000 in
theorem play_any (w : World) (b n cap : Nat) (fb : Nat → Nat) (l : NM) (A : Option Addr) (cs : List Ch) (hn : cs.length = n) (hm : MapAt w b fb l) (hA : ChAt w fb A cs) (hP : PlayOk l cs) (hn2 : n ≤ 1000000000) :
    Calls Try.prog 45 #[.map (some b), .slice A n cap] w (PlayEnd b fb (play l cs) w) := by
  have HN := Lib.hid hn
  have HM := Lib.hid hm
  have HA := Lib.hid hA
  have HP := Lib.hid hP
  clear hn hm hA hP
  go_enter Try.func45, Try.ntmps45
  go_wp2
  go_loopw [8] (fun iv wr => PlayRel w b fb l cs iv wr) (fun iv _ => (n - intOf iv).toNat)
  case atStart => exact ⟨0, rfl, Nat.zero_le _, HM.out, grownBy_refl _ _⟩
  case round =>
    obtain ⟨k, rfl, hk, hmk, hg⟩ := hrel
    rw [HN.out] at hk
    by_cases hlt : k < n
    · obtain ⟨c, hc⟩ : ∃ c, cs[k]? = some c := ⟨cs[k]'(by rw [HN.out]; exact hlt), List.getElem?_eq_getElem _⟩
      obtain ⟨g, off, rfl, hcell⟩ := HA.out k c hc
      have hst := HP.out.step k c hc
      have hlen := HP.out.len k
      have hnx := play_next (l := l) hc
      have d := fun j hj => grown_cell HM.out hg (hcell j hj)
      have d0 := d 0 (by omega)
      have d1 := d 1 (by omega)
      have d2 := d 2 (by omega)
      have d3 := d 3 (by omega)
      rw [Nat.add_zero] at d0
      have q1 : (k : Int) < (n : Int) := by omega
      obtain ⟨lk, hlk⟩ : ∃ lk, play l (cs.take k) = lk := ⟨_, rfl⟩
      rw [hlk] at hmk hst hlen hnx
      have HNX := Lib.hid hnx
      have HG := Lib.hid hg
      clear hcell d hnx hlk hg hc
      cases c with
      | makes m f =>
        simp only [Ch.cell] at d0 d1 d2 d3
        have hm1 := hmk.same (w' := wr.alloc (.cells #[.int .i64 0, .string (str m), .string ⟨#[]⟩, .pointer (some ⟨fb f, 0, none⟩)] 98)) (((Below.refl wr.heap.size wr).alloc (Nat.le_refl _) _).block b hmk.lt)
        obtain ⟨w1, o1, hrun, hm2, hO⟩ := hm1.update (str_size m hst.2) f (by unfold maxLen; omega)
        rw [list_str] at hm2
        have HM2 := Lib.hid hm2
        have HO := Lib.hid hO
        clear hm1 hm2 hO hmk hst
        go_wp2
        exact ⟨⟨k + 1, by go_num, by rw [HN.out]; omega, by rw [HNX.out]; exact HM2.out, grown_trans HG.out (grown_trans (grown_alloc _ _ _) (only_grown HO.out))⟩, by simp [intOf]; omega⟩
      | renames m t =>
        simp only [Ch.cell] at d0 d1 d2 d3
        obtain ⟨f, hf⟩ := Option.isSome_iff_exists.1 hst.1
        have hm1 := hmk.same (w' := wr.alloc (.cells #[.int .i64 1, .string (str m), .string (str t), .pointer none] 98)) (((Below.refl wr.heap.size wr).alloc (Nat.le_refl _) _).block b hmk.lt)
        have hlook := hm1.look (str_size m hst.2.1)
        unfold lookV at hlook
        rw [list_str, hf] at hlook
        obtain ⟨w1, o1, hrun, hm2, hO⟩ := hm1.update (str_size t hst.2.2) f (by unfold maxLen; omega)
        rw [list_str] at hm2
        obtain ⟨w3, o3, hrun3, hm3, hO3⟩ := hm2.drop (str_size m hst.2.1) 0
        rw [list_str] at hm3
        have e : Ch.on lk (.renames m t) = NM.del (NM.put lk t f) m := by simp only [Ch.on, hf]
        rw [e] at HNX
        have b1 := grown_cell hm1 (only_grown hO) (cell_of_obj (heap_alloc_new wr (.cells #[.int .i64 1, .string (str m), .string (str t), .pointer none] 98)) 1)
        have b1 : w1.cell? ⟨wr.heap.size, 1, none⟩ = some (.string (str m)) := b1
        have HR3 := Lib.hid hrun3
        have HM3 := Lib.hid hm3
        have HO := Lib.hid (grown_trans (only_grown hO) (only_grown hO3))
        clear hm1 hm2 hO hmk hst hrun3 e hf hm3 hO3
        go_wp2_with (refine wpList_delete_by rfl (.tmp 30) (.tmp 32) 78 9 rfl rfl rfl HR3.out ?_)
        exact ⟨⟨k + 1, by go_num, by rw [HN.out]; omega, by rw [HNX.out]; exact HM3.out, grown_trans HG.out (grown_trans (grown_alloc _ _ _) HO.out)⟩, by simp [intOf]; omega⟩
      | removes m =>
        simp only [Ch.cell] at d0 d1 d2 d3
        have hm1 := hmk.same (w' := wr.alloc (.cells #[.int .i64 2, .string (str m), .string ⟨#[]⟩, .pointer none] 98)) (((Below.refl wr.heap.size wr).alloc (Nat.le_refl _) _).block b hmk.lt)
        obtain ⟨w3, o3, hrun3, hm3, hO3⟩ := hm1.drop (str_size m hst.2) 0
        rw [list_str] at hm3
        have HR3 := Lib.hid hrun3
        have HM3 := Lib.hid hm3
        have HO := Lib.hid (only_grown hO3)
        clear hm1 hmk hst hrun3 hm3 hO3
        go_wp2_with (refine wpList_delete_by rfl (.tmp 35) (.tmp 37) 78 9 rfl rfl rfl HR3.out ?_)
        exact ⟨⟨k + 1, by go_num, by rw [HN.out]; omega, by rw [HNX.out]; exact HM3.out, grown_trans HG.out (grown_trans (grown_alloc _ _ _) HO.out)⟩, by simp [intOf]; omega⟩
    · obtain rfl : k = n := by omega
      go_wp2
      go_end0
      rw [← HN.out, List.take_length] at hmk
      exact ⟨rfl, hmk, hg⟩
end Go.Proofs.Ytgkpobajafjdeaa
