/- Lists that each hold a mark of their own: 'One' (a list of n elements whose cells are c 0, c 1, ..), and append with the mark's own cells: every list keeps its mark ('run_append_marked'). Of no program: types and sizes are letters. -/
import Derived.Test.YtbgojhjlmlbfpaaMem
namespace Go.Proofs.Ytbgojhjlmlbfpaa
open Go.RowKit

/-- The list v, n elements of sz cells, holds the cells c 0, c 1, ..; it lies in a block from base on. -/
def One (w : World) (base : Nat) (e : TypeId) (sz : Nat) (v : Value) (n : Nat) (c : Nat → Value) : Prop :=
  (v = .slice none 0 0 ∧ n = 0) ∨ ∃ g cap cur, v = .slice (some ⟨g, 0, none⟩) n cap ∧ base ≤ g ∧ w.heap[g]? = some (.cells cur e (0, 0)) ∧ n ≤ cap ∧ cap ≤ maxLen ∧ cur.size = cap * sz ∧ ∀ k, k < n * sz → cur[k]? = some (c k)

theorem take_marks {cur : Array Value} {m : Nat} {c : Nat → Value} : cur.toList.take m = (List.range m).map c ↔ ∀ k, k < m → cur[k]? = some (c k) := by
  constructor
  · intro h k hk
    have := congrArg (fun l => l[k]?) h
    simp only [List.getElem?_take, hk, if_true, List.getElem?_map, List.getElem?_range hk, Option.map_some] at this
    simpa using this
  · intro h
    apply List.ext_getElem?
    intro k
    by_cases hk : k < m
    · simp only [List.getElem?_take, hk, if_true, List.getElem?_map, List.getElem?_range hk, Option.map_some]
      simpa using h k hk
    · rw [List.getElem?_eq_none (by simp; omega), List.getElem?_eq_none (by simp; omega)]
theorem One.own {w : World} {base sz n : Nat} {e : TypeId} {v : Value} {c : Nat → Value} (h : One w base e sz v n c) : w.ownsRow base e sz v n ((List.range (n * sz)).map c) := by
  refine ⟨by simp, ?_⟩
  rcases h with h | ⟨g, cap, cur, h1, h2, h3, h4, h5, h6, h7⟩
  · exact .inl h
  · exact .inr ⟨g, cap, cur, h1, h2, h3, h4, h5, h6, take_marks.2 h7⟩
theorem One.of {w : World} {base sz n : Nat} {e : TypeId} {v : Value} {c : Nat → Value} (h : w.ownsRow base e sz v n ((List.range (n * sz)).map c)) : One w base e sz v n c := by
  rcases h.2 with h | ⟨g, cap, cur, h1, h2, h3, h4, h5, h6, h7⟩
  · exact .inl h
  · exact .inr ⟨g, cap, cur, h1, h2, h3, h4, h5, h6, take_marks.1 h7⟩
theorem One.block {w : World} {base sz n : Nat} {e : TypeId} {v : Value} {c : Nat → Value} (h : One w base e sz v n c) {g : Nat} (hg : v.ownBlock = some g) : base ≤ g ∧ g < w.heap.size := by
  rcases h with ⟨rfl, _⟩ | ⟨g', cap, cur, rfl, h2, h3, _⟩
  · simp [Value.ownBlock] at hg
  · simp [Value.ownBlock] at hg
    subst hg
    exact ⟨h2, lt_of_obj h3⟩
/-- In a world where the list's block is as it was, it is as it was. -/
theorem One.same {w w1 : World} {base sz n : Nat} {e : TypeId} {v : Value} {c : Nat → Value} (h : One w base e sz v n c) (hb : ∀ g, v.ownBlock = some g → w1.heap[g]? = w.heap[g]?) : One w1 base e sz v n c := by
  rcases h with h | ⟨g, cap, cur, rfl, h2, h3, h4⟩
  · exact .inl h
  · exact .inr ⟨g, cap, cur, rfl, h2, (hb g rfl).trans h3, h4⟩
theorem One.below {w w1 : World} {base sz n : Nat} {e : TypeId} {v : Value} {c : Nat → Value} (h : One w base e sz v n c) (hb : Below w.heap.size w w1) : One w1 base e sz v n c :=
  h.same fun g hg => hb.block g (h.block hg).2
theorem One.only {w w1 : World} {base sz n b : Nat} {e : TypeId} {v : Value} {c : Nat → Value} {o : Obj} (h : One w base e sz v n c) (hb : OnlyB w w1 b o) (hne : v.ownBlock ≠ some b) : One w1 base e sz v n c :=
  h.same fun g hg => hb.far (fun he => hne (by rw [hg, he]))
theorem One.cell {w : World} {base sz n g : Nat} {e : TypeId} {v : Value} {c : Nat → Value} (h : One w base e sz v n c) (hg : v.ownBlock = some g) {k : Nat} (hk : k < n * sz) : w.cell? ⟨g, k, none⟩ = some (c k) := by
  rcases h with ⟨rfl, _⟩ | ⟨g', cap, cur, rfl, h2, h3, h4, h5, h6, h7⟩
  · simp [Value.ownBlock] at hg
  · simp [Value.ownBlock] at hg
    subst hg
    rw [cell_of_obj h3 k]
    exact h7 k hk

/-- THE LAW: append to a list, and what is appended goes on with its mark: the new list holds the mark; every list that does not share the row with another mark holds its own. -/
theorem run_append_marked {P : Program} (w : World) (base : Nat) (t ty e : TypeId) (i : TypeInfo) (z : Value) (size bytes : Nat) (ht : P.underlying t = some (.slice e)) (hi : P.info? e = some i) (hz : i.zero = some z)
    (hsize : i.size = size) (hby : i.bytes = bytes) (hzs : z.cells.size = size) (hsz : 0 < size)
    (v : Value) (n : Nat) (c : Nat → Value) (hv : One w base e size v n c)
    (a : Addr) (m cp : Nat) (news : List Value) (hl : news.length = m * size) (hnc : ∀ k, k < m * size → news[k]? = some (c (n * size + k))) (hnews : ∀ j u, news[j]? = some u → w.cell? (a.add j) = some u) (h1 : ∀ u ∈ news, u.oneCell' = true)
    (hm : 0 < m) (h63 : n + m ≤ maxLen) (hbytes : (n + m) * bytes ≤ 140737488355328) (hbase : base ≤ w.heap.size) :
    ∃ g cap w', (Builtin.append_ #[t, t] ty #[v, .slice (some a) m cp]).run P w = .ok (.slice (some ⟨g, 0, none⟩) (n + m) cap) w' ∧ One w' base e size (.slice (some ⟨g, 0, none⟩) (n + m) cap) (n + m) c ∧ w.grownBy w' v.ownBlock ∧
      (v.ownBlock = some g ∨ g = w.heap.size) ∧ ∀ u nu cu, One w base e size u nu cu → (u.ownBlock = v.ownBlock → cu = c) → One w' base e size u nu cu := by
  obtain ⟨g, cap, w', hr, h2, h3, h4, h5⟩ := run_append_lies (P := P) w t ty base e i z size bytes ht hi hz hsize hby hzs hsz v n _ hv.own a m cp news hl hnews h1 hm h63 hbytes hbase _ rfl
  have hxs : (List.range (n * size)).map c ++ news = (List.range ((n + m) * size)).map c := by
    apply List.ext_getElem?
    intro k
    by_cases hk : k < n * size
    · rw [List.getElem?_append_left (by simpa using hk)]
      simp only [List.getElem?_map, List.getElem?_range hk, List.getElem?_range (show k < (n + m) * size by rw [Nat.add_mul]; omega)]
    · rw [List.getElem?_append_right (by simp; omega)]
      simp only [List.length_map, List.length_range]
      by_cases hk2 : k < (n + m) * size
      · rw [Nat.add_mul] at hk2
        rw [hnc (k - n * size) (by omega)]
        rw [List.getElem?_map, List.getElem?_range (by rw [Nat.add_mul]; omega)]
        simp
        congr 1
        omega
      · rw [Nat.add_mul] at hk2
        rw [List.getElem?_eq_none (by rw [hl]; omega), List.getElem?_eq_none (by simp [Nat.add_mul]; omega)]
  rw [hxs] at h2
  refine ⟨g, cap, w', hr, One.of h2, h3, h4, ?_⟩
  have hsmall : n + m ≤ 9223372036854775807 := by simp only [maxLen] at h63; omega
  intro u nu cu hu hsame
  subst hsize
  subst hby
  rcases hv with ⟨rfl, rfl⟩ | ⟨g0, cap0, cur, rfl, k2, k3, k4, k5, k6, k7⟩
  · have hr2 := run_append_nil (P := P) w t ty e i z ht hi hz a m cp news hl hnews hm (by omega) (by have hb := hbytes; simp only [Nat.zero_add] at hb; omega)
    rw [hr] at hr2
    injection hr2 with _ hr2
    subst hr2
    exact hu.below (((Below.refl _ _).drew).alloc (by simp) _)
  · by_cases hroom : n + m ≤ cap0
    · have hfit : n * i.size + news.length ≤ cur.size := by rw [hl, k6, ← Nat.add_mul]; exact Nat.mul_le_mul_right _ hroom
      have hr2 := run_append_room (P := P) w t ty e i ht hi g0 n cap0 cur k3 a m cp news hl hnews h1 hroom hfit
      rw [hr] at hr2
      injection hr2 with _ hr2
      subst hr2
      by_cases hsb : u.ownBlock = some g0
      · obtain rfl := hsame hsb
        rcases hu with hu | ⟨g1, cap1, cur1, rfl, j2, j3, j4, j5, j6, j7⟩
        · exact .inl hu
        · simp [Value.ownBlock] at hsb
          subst hsb
          obtain rfl : cur1 = cur := by
            rw [k3] at j3
            injection j3 with j3
            injection j3 with j3
            exact j3.symm
          refine .inr ⟨g1, cap1, _, rfl, j2, setRow_heap w g1 cur1 _ e _ k3, j4, j5, ?_, ?_⟩
          · simp only [List.size_toArray, List.length_append, List.length_take, List.length_drop, Array.length_toList]
            omega
          · intro k hk
            rw [List.getElem?_toArray]
            by_cases hk1 : k < n * i.size
            · rw [List.append_assoc, List.getElem?_append_left (by simp; omega), List.getElem?_take, if_pos hk1]
              simpa using k7 k hk1
            · rw [List.append_assoc, List.getElem?_append_right (by simp; omega)]
              have e1 : (List.take (n * i.size) cur1.toList).length = n * i.size := by simp; omega
              rw [e1]
              by_cases hk2 : k < n * i.size + news.length
              · rw [List.getElem?_append_left (by omega), hnc _ (by omega)]
                congr 2
                omega
              · rw [List.getElem?_append_right (by omega), List.getElem?_drop]
                rw [show n * i.size + news.length + (k - n * i.size - news.length) = k by omega]
                simpa using j7 k hk
      · exact hu.same fun b hb => setRow_other w g0 b _ (fun e => hsb (by rw [hb, e]))
    · have hown : One w base e i.size (.slice (some ⟨g0, 0, none⟩) n cap0) n c := .inr ⟨g0, cap0, cur, rfl, k2, k3, k4, k5, k6, k7⟩
      have hr2 := run_append_grow (P := P) w t ty e i z ht hi hz ⟨g0, 0, none⟩ n cap0 _ hown.own.1 (hown.own.cells (g := g0) rfl) a m cp news hl hnews (by omega) (by omega) (growslice_fits (by omega) hbytes)
      rw [hr] at hr2
      injection hr2 with _ hr2
      subst hr2
      exact hu.below (((Below.refl _ _).drew).alloc (by simp) _)
/-- The law at an operation's place, for the walk. -/
theorem wpList_append_marked {P : Program} {w : World} {ops : Array Oper} {rest : List Oper} {o : Oper} {a : Act} {Q : Exit → Act → World → Prop} (hgd : o.guard = none) (s x : Operand) (t : TypeId)
    (ho : o.op = .call { callee := .builtin .append, args := #[s, x], argTypes := #[t, t] })
    (base : Nat) (e : TypeId) (i : TypeInfo) (z : Value) (size bytes : Nat) (ht : P.underlying t = some (.slice e)) (hi : P.info? e = some i) (hz : i.zero = some z)
    (hsize : i.size = size) (hby : i.bytes = bytes) (hzs : z.cells.size = size) (hsz : 0 < size)
    (v : Value) (n : Nat) (c : Nat → Value) (hs : a.eval s = v) (hv : One w base e size v n c)
    (ad : Addr) (m cp : Nat) (news : List Value) (hx : a.eval x = .slice (some ad) m cp) (hl : news.length = m * size) (hnc : ∀ k, k < m * size → news[k]? = some (c (n * size + k))) (hnews : ∀ j u, news[j]? = some u → w.cell? (ad.add j) = some u) (h1 : ∀ u ∈ news, u.oneCell' = true)
    (hm : 0 < m) (h63 : n + m ≤ maxLen) (hbytes : (n + m) * bytes ≤ 140737488355328) (hbase : base ≤ w.heap.size)
    (h : ∀ g cap w', One w' base e size (.slice (some ⟨g, 0, none⟩) (n + m) cap) (n + m) c → w.grownBy w' v.ownBlock → (v.ownBlock = some g ∨ g = w.heap.size) →
      (∀ u nu cu, One w base e size u nu cu → (u.ownBlock = v.ownBlock → cu = c) → One w' base e size u nu cu) → wpList P ops Q rest (a.put o.dst (.slice (some ⟨g, 0, none⟩) (n + m) cap)) w') : wpList P ops Q (o :: rest) a w :=
  wpList_plain hgd fun _ hK => by
    obtain ⟨g, cap, w', hr, h2, h3, h4, h5⟩ := run_append_marked (P := P) w base t o.type e i z size bytes ht hi hz hsize hby hzs hsz v n c hv ad m cp news hl hnc hnews h1 hm h63 hbytes hbase
    unfold Oper.wp execOp
    simp only [ho, resolve, invoke, builtin, Sem.run_bind, Sem.run_pure, Result.andThen_ok, List.map_toArray, List.map_cons, List.map_nil, hs, hx, hr]
    exact hK _ _ (h g cap w' h2 h3 h4 h5)
end Go.Proofs.Ytbgojhjlmlbfpaa
