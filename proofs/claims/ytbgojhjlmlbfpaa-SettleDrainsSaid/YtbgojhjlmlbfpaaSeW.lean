/- SettleDrains: the plain law: what holds between ticks and between messages, and what each step does to it. -/
import Derived.Test.YtbgojhjlmlbfpaaSeV
namespace Go.Proofs.Ytbgojhjlmlbfpaa
open Go.RowKit

structure Drain (n N cp cap : Nat) (sh : Int) (lim : Nat) (Q : List Ent) (mk : Int → Nat) (ws : Nat → Way) : Prop where
  peer : ∀ e ∈ Q, ∃ p : Nat, e.peer = p ∧ p < N ∧ (p : Int) ≠ sh
  len : Q.length ≤ 16 ∧ Q.length * (cp * cap) ≤ lim
  num : NumOk Q mk
  few : ∀ p : Int, mk p + cnt Q p ≤ 16
  way : ∀ k : Nat, k < N → (k : Int) ≠ sh → WayOk (ws k) k n cp cap ∧ match firstE Q (k : Nat) with | some e => (ws k).there = true ∧ (ws k).e = e | none => (ws k).there = false
structure Mid (n N cp cap : Nat) (sh : Int) (hol : Nat → Nat) (lim : Nat) (ms : List SMsg) (i t : Nat) (Q : List Ent) (mk : Int → Nat) (ws : Nat → Way) : Prop where
  base : Drain n N cp cap sh lim Q mk ws
  up : ∀ (j j' : Nat) (x x' : SMsg), j < j' → ms[j]? = some x → ms[j']? = some x' → x.peer < x'.peer
  msg : ∀ (j : Nat) (x : SMsg), i ≤ j → ms[j]? = some x → ∃ (k : Nat) (e : Ent) (tn : Nat), k < N ∧ (k : Int) ≠ sh ∧ firstE Q (k : Nat) = some e ∧ tn < cp ∧ x = ⟨0, (copiesL k n cp).getD tn 0, sh, k, e.num, e.name, e.amt⟩
  bnd : ∀ k : Nat, k < N → (k : Int) ≠ sh → t + Tm cp cap (cnt Q (k : Nat)) (hol k) (ws k) ≤ lim ∨
    ∃ (j : Nat) (x : SMsg), i ≤ j ∧ ms[j]? = some x ∧ x.peer = (k : Nat) ∧ x.to = (copiesL k n cp).getD (hol k) 0 ∧ t + (cnt Q (k : Nat) - 1) * (cp * cap) ≤ lim
/-- Between ticks: t ticks have gone by. -/
def Bound (N cp cap : Nat) (sh : Int) (hol : Nat → Nat) (lim t : Nat) (Q : List Ent) (ws : Nat → Way) : Prop :=
  ∀ k : Nat, k < N → (k : Int) ≠ sh → t + Tm cp cap (cnt Q (k : Nat)) (hol k) (ws k) ≤ lim + 1
section
variable {n N cp cap lim : Nat} {sh : Int} {hol : Nat → Nat} {Q : List Ent} {mk : Int → Nat} {ws : Nat → Way}

theorem Drain.le (h : Drain n N cp cap sh lim Q mk ws) (hh : ∀ k, hol k < cp) (hcap : 1 ≤ cap) {k : Nat} (hk : k < N) (hs : (k : Int) ≠ sh) : Tm cp cap (cnt Q (k : Nat)) (hol k) (ws k) ≤ lim := by
  have h1 := Tm_le (c := cnt Q (k : Nat)) (h.way k hk hs).1 (hh k) hcap
  have h2 := Nat.mul_le_mul_right (cp * cap) (cnt_le Q (k : Nat))
  have h3 := h.len.2
  omega
theorem Drain.le2 (h : Drain n N cp cap sh lim Q mk ws) (k : Int) : (cnt Q k - 1) * (cp * cap) ≤ lim := by
  have h2 := Nat.mul_le_mul_right (cp * cap) (show cnt Q k - 1 ≤ Q.length by have := cnt_le Q k; omega)
  have h3 := h.len.2
  omega
/-- The start. -/
theorem Drain.start (hf : ∀ k, k < N → FreshWay (ws k) cap (copiesL k n cp)) (hQ : QOk Q N sh) (hcap : 1 ≤ cap) (hcp : 1 ≤ cp) (hlim : Q.length * (cp * cap) ≤ lim) : Drain n N cp cap sh lim Q (fun _ => 0) (wsL sh Q ws N) := by
  refine ⟨fun e he => ?_, ⟨hQ.len, hlim⟩, ?_, fun p => by have h1 := cnt_le Q p; have h2 := hQ.len; omega, fun k hk hs => ?_⟩
  · obtain ⟨k, hk⟩ := List.mem_iff_getElem?.1 he
    exact hQ.peer k e hk
  · have : ∀ (R S : List Ent), (∀ (k : Nat) (e : Ent), S[k]? = some e → e.num = ((cnt (R ++ S.take k) e.peer + 1 : Nat) : Int)) → NumOk S (fun p => cnt R p) := by
      intro R S
      induction S generalizing R with
      | nil => intro _; trivial
      | cons e r ih =>
        intro h
        refine ⟨by have := h 0 e rfl; simpa using this, ?_⟩
        have h2 := ih (R ++ [e]) (fun k e' hk => by
          have := h (k + 1) e' (by simpa using hk)
          rw [this, List.take_succ_cons, List.append_assoc]
          rfl)
        have h3 : (fun p => cnt (R ++ [e]) p) = bump (fun p => cnt R p) e.peer := by
          funext p
          rw [cnt_add]
          unfold bump
          by_cases hp : p = e.peer
          · rw [if_pos hp.symm, if_pos hp]
          · rw [if_neg (fun h => hp h.symm), if_neg hp, Nat.add_zero]
        rw [h3] at h2
        exact h2
    exact this [] Q (fun k e hk => by simpa using hQ.num k e hk)
  · have hfk := hf k hk
    have hw : wsL sh Q ws N k = (ws k).look k Q := if_pos ⟨hk, hs⟩
    rw [hw]
    cases he : firstE Q (k : Nat) with
    | some e =>
      have hl : (ws k).look k Q = { ws k with l := 0, g := 1, e := e, there := true } := by
        unfold Way.look
        rw [he]
        simp only
        rw [if_neg (fun h => by rw [hfk.there] at h; exact absurd h.1 (by decide))]
      rw [hl]
      exact ⟨⟨hfk.L, hfk.c, by show (ws k).turn < cp; rw [hfk.turn]; exact hcp, ⟨by show (0 : Int) ≤ 0; omega, by show (0 : Int) ≤ _; omega⟩, ⟨by show (1 : Int) ≤ 1; omega, by show (1 : Int) ≤ _; omega⟩⟩, rfl, rfl⟩
    | none =>
      have hl : (ws k).look k Q = { ws k with there := false } := by
        unfold Way.look
        rw [he]
      rw [hl]
      exact ⟨⟨hfk.L, hfk.c, by show (ws k).turn < cp; rw [hfk.turn]; exact hcp, ⟨by show (0 : Int) ≤ (ws k).l; rw [hfk.l]; omega, by show (ws k).l ≤ _; rw [hfk.l]; omega⟩, ⟨by show (1 : Int) ≤ (ws k).g; rw [hfk.g]; omega, by show (ws k).g ≤ _; rw [hfk.g]; omega⟩⟩, rfl⟩
theorem Drain.bound0 (h : Drain n N cp cap sh lim Q mk ws) (hh : ∀ k, hol k < cp) (hcap : 1 ≤ cap) : Bound N cp cap sh hol lim 0 Q ws := fun k hk hs => by
  have := h.le hh hcap hk hs
  omega
/-- A tick: the messages are at hand. -/
theorem Drain.tick (h : Drain n N cp cap sh lim Q mk ws) {t : Nat} (hb : Bound N cp cap sh hol lim t Q ws) (ht : t ≤ lim) (hh : ∀ k, hol k < cp) (hcap : 1 ≤ cap) (hn : cp ≤ n) : Mid n N cp cap sh hol lim (msT 0 sh ws N) 0 t Q mk (wsT sh ws N) := by
  have hw : ∀ k, k < N → (k : Int) ≠ sh → wsT sh ws N k = (ws k).tick := fun k hk hs => if_pos ⟨hk, hs⟩
  refine ⟨⟨h.peer, h.len, h.num, h.few, fun k hk hs => ?_⟩, fun j j' x x' hj hx hx' => msT_up 0 sh ws N j j' x x' hj hx hx', fun j x _ hx => ?_, fun k hk hs => ?_⟩
  · rw [hw k hk hs]
    obtain ⟨h1, h2⟩ := h.way k hk hs
    refine ⟨h1.tick hn hcap, ?_⟩
    cases he : firstE Q (k : Nat) with
    | some e =>
      rw [he] at h2
      obtain ⟨h3, h4⟩ := h2
      show (ws k).tick.there = true ∧ (ws k).tick.e = e
      unfold Way.tick
      rw [if_pos h3]
      by_cases hl : (ws k).l ≤ 1
      · rw [if_pos hl]
        exact ⟨h3, h4⟩
      · rw [if_neg hl]
        exact ⟨h3, h4⟩
    | none =>
      rw [he] at h2
      rw [tick_idle _ h2]
      exact h2
  · obtain ⟨k, hk, hs, hfi, rfl⟩ := msT_at 0 sh ws N j x hx
    obtain ⟨h1, h2⟩ := h.way k hk hs
    cases he : firstE Q (k : Nat) with
    | some e =>
      rw [he] at h2
      refine ⟨k, e, (ws k).turn, hk, hs, he, h1.turn, ?_⟩
      unfold msgOf
      rw [h1.L, h2.2]
    | none =>
      rw [he] at h2
      unfold Way.fires at hfi
      rw [h2] at hfi
      cases hfi
  · rw [hw k hk hs]
    obtain ⟨h1, h2⟩ := h.way k hk hs
    have hbk := hb k hk hs
    cases he : firstE Q (k : Nat) with
    | some e =>
      rw [he] at h2
      have hc := cnt_pos he
      by_cases hm : (ws k).l ≤ 1 ∧ (ws k).turn = hol k
      · refine .inr ?_
        have hfi : (ws k).fires = true := by
          unfold Way.fires
          rw [h2.1, decide_eq_true hm.1]
          rfl
        have htl := told_msT 0 sh ws k N
        rw [decide_eq_true hk, decide_eq_true hs, hfi] at htl
        unfold told at htl
        replace htl : ((msT 0 sh ws N).any fun m => m.peer == ((k : Nat) : Int)) = true := htl
        rw [List.any_eq_true] at htl
        obtain ⟨x, hx, hp⟩ := htl
        obtain ⟨j, hj⟩ := List.mem_iff_getElem?.1 hx
        have hp : x.peer = (k : Nat) := by simpa using hp
        refine ⟨j, x, Nat.zero_le _, hj, hp, ?_, ?_⟩
        · obtain ⟨k', _, _, _, rfl⟩ := msT_at 0 sh ws N j x hj
          have hk' : k' = k := by
            have e1 : ((k' : Nat) : Int) = (k : Nat) := hp
            omega
          subst hk'
          show (ws k').L.getD (ws k').turn 0 = _
          rw [h1.L, hm.2]
        · have := Tm_low (y := ws k) (cp := cp) (cap := cap) (h := hol k) hc
          omega
      · refine .inl ?_
        have := Tm_tick h1 hn (hh k) hc h2.1 (fun h3 h4 => hm ⟨h3, h4⟩)
        omega
    | none =>
      refine .inl ?_
      rw [cnt_zero he]
      unfold Tm
      rw [if_pos rfl]
      exact ht
/-- No time has gone by yet. -/
theorem Mid.anew {ms : List SMsg} {i t : Nat} (h : Mid n N cp cap sh hol lim ms i t Q mk ws) (hh : ∀ k, hol k < cp) (hcap : 1 ≤ cap) (j : Nat) (hj : i ≤ j) : Mid n N cp cap sh hol lim ms j 0 Q mk ws :=
  ⟨h.base, h.up, fun j' x hj' hx => h.msg j' x (by omega) hx, fun k hk hs => .inl (by have := h.base.le hh hcap hk hs; omega)⟩
theorem Mid.get {ms : List SMsg} {i t : Nat} {x : SMsg} (h : Mid n N cp cap sh hol lim ms i t Q mk ws) (hx : ms[i]? = some x) :
    ∃ (k : Nat) (e : Ent) (tn : Nat), k < N ∧ (k : Int) ≠ sh ∧ firstE Q (k : Nat) = some e ∧ tn < cp ∧ x = ⟨0, (copiesL k n cp).getD tn 0, sh, k, e.num, e.name, e.amt⟩ ∧ e.num = ((mk k + 1 : Nat) : Int) := by
  obtain ⟨k, e, tn, h1, h2, h3, h4, h5⟩ := h.msg i x (Nat.le_refl _) hx
  exact ⟨k, e, tn, h1, h2, h3, h4, h5, NumOk.first (k : Nat) Q mk h.base.num e h3⟩
/-- A message that comes to no holder. -/
theorem Mid.past {ms : List SMsg} {i t k tn : Nat} {x : SMsg} (h : Mid n N cp cap sh hol lim ms i t Q mk ws) (hx : ms[i]? = some x) (hp : x.peer = (k : Nat)) (ht : x.to = (copiesL k n cp).getD tn 0) (htn : tn < cp) (hne : tn ≠ hol k) (hh : ∀ k, hol k < cp) (hN : N ≤ 8) (hn9 : n ≤ 9) (hn : cp ≤ n) :
    Mid n N cp cap sh hol lim ms (i + 1) t Q mk ws := by
  refine ⟨h.base, h.up, fun j' x hj' hx => h.msg j' x (by omega) hx, fun k' hk hs => ?_⟩
  rcases h.bnd k' hk hs with h1 | ⟨j, x', h1, h2, h3, h4, h5⟩
  · exact .inl h1
  · refine .inr ⟨j, x', ?_, h2, h3, h4, h5⟩
    rcases Nat.lt_or_ge i j with hlt | hge
    · omega
    · exfalso
      obtain rfl : j = i := by omega
      rw [hx] at h2
      injection h2 with h2
      subst h2
      have hkk : k' = k := by rw [hp] at h3; omega
      subst hkk
      have hl : (copiesL k' n cp).length = cp := copiesL_length hn
      have hnd := copiesL_nodup k' n cp (by omega) hn9 hn
      have e1 := placeZ_at hnd (j := tn) (by omega)
      have e2 := placeZ_at hnd (j := hol k') (by have := hh k'; omega)
      rw [← ht, h4, e2] at e1
      omega
theorem look_credit {k : Nat} {e : Ent} (hw : (ws k).there = true ∧ (ws k).e = e) (hnum : NumOk Q mk) (he : firstE Q (k : Nat) = some e) (ho : WayOk (ws k) k n cp cap) (hcap : 1 ≤ cap) :
    WayOk ((ws k).look k (Q.filter (leftB k ((mk k + 1 : Nat) : Int)))) k n cp cap ∧ match firstE (Q.filter (leftB k ((mk k + 1 : Nat) : Int))) (k : Nat) with | some e => ((ws k).look k (Q.filter (leftB k ((mk k + 1 : Nat) : Int)))).there = true ∧ ((ws k).look k (Q.filter (leftB k ((mk k + 1 : Nat) : Int)))).e = e | none => ((ws k).look k (Q.filter (leftB k ((mk k + 1 : Nat) : Int)))).there = false := by
  have h1 := NumOk.first (k : Nat) Q mk hnum e he
  have h2 := (NumOk.credit (k : Nat) Q mk hnum).1
  cases hf : firstE (Q.filter (leftB k ((mk k + 1 : Nat) : Int))) (k : Nat) with
  | some e' =>
    have h3 := NumOk.first (k : Nat) _ _ h2 e' hf
    have hl : (ws k).look k (Q.filter (leftB k ((mk k + 1 : Nat) : Int))) = { ws k with l := 0, g := 1, e := e', there := true } := by
      unfold Way.look
      rw [hf]
      simp only
      rw [if_neg (fun h => by
        have h4 := h.2
        rw [hw.2, h1, h3] at h4
        unfold bump at h4
        rw [if_pos rfl] at h4
        omega)]
    rw [hl]
    exact ⟨⟨ho.L, ho.c, ho.turn, ⟨by show (0 : Int) ≤ 0; omega, by show (0 : Int) ≤ _; omega⟩, ⟨by show (1 : Int) ≤ 1; omega, by show (1 : Int) ≤ _; omega⟩⟩, rfl, rfl⟩
  | none =>
    have hl : (ws k).look k (Q.filter (leftB k ((mk k + 1 : Nat) : Int))) = { ws k with there := false } := by
      unfold Way.look
      rw [hf]
    rw [hl]
    exact ⟨⟨ho.L, ho.c, ho.turn, ho.l, ho.g⟩, rfl⟩
/-- A credit. -/
theorem Mid.credit {ms : List SMsg} {i t k : Nat} {x : SMsg} {e : Ent} (h : Mid n N cp cap sh hol lim ms i t Q mk ws) (hx : ms[i]? = some x) (hp : x.peer = (k : Nat)) (hk : k < N) (hs : (k : Int) ≠ sh) (he : firstE Q (k : Nat) = some e) (hh : ∀ k, hol k < cp) (hcap : 1 ≤ cap) :
    Mid n N cp cap sh hol lim ms (i + 1) t (Q.filter (leftB k ((mk k + 1 : Nat) : Int))) (bump mk k) (wsL sh (Q.filter (leftB k ((mk k + 1 : Nat) : Int))) ws N) := by
  obtain ⟨c1, c2⟩ := NumOk.credit (k : Nat) Q mk h.base.num
  have hoth := fun q hq => credit_other Q k q ((mk k + 1 : Nat) : Int) hq
  have hlen : (Q.filter (leftB k ((mk k + 1 : Nat) : Int))).length ≤ Q.length := List.length_filter_le _ _
  have hww : ∀ q, q < N → (q : Int) ≠ sh → q ≠ k → wsL sh (Q.filter (leftB k ((mk k + 1 : Nat) : Int))) ws N q = ws q := fun q hq hqs hqk => by
    have : wsL sh (Q.filter (leftB k ((mk k + 1 : Nat) : Int))) ws N q = (ws q).look q (Q.filter (leftB k ((mk k + 1 : Nat) : Int))) := if_pos ⟨hq, hqs⟩
    rw [this]
    refine look_same ?_
    rw [(hoth q (by omega)).1]
    exact (h.base.way q hq hqs).2
  have hfew : ∀ p : Int, bump mk k p + cnt (Q.filter (leftB k ((mk k + 1 : Nat) : Int))) p ≤ 16 := fun p => by
    have h1 := h.base.few p
    have h2 := cnt_pos he
    unfold bump
    by_cases hpk : p = (k : Nat)
    · subst hpk
      rw [if_pos rfl, c2]
      omega
    · rw [if_neg hpk, (hoth p hpk).2]
      exact h1
  have hwk : wsL sh (Q.filter (leftB k ((mk k + 1 : Nat) : Int))) ws N k = (ws k).look k (Q.filter (leftB k ((mk k + 1 : Nat) : Int))) := if_pos ⟨hk, hs⟩
  have hwy := h.base.way k hk hs
  rw [he] at hwy
  have hlk := look_credit hwy.2 h.base.num he hwy.1 hcap
  refine ⟨⟨fun e' he' => h.base.peer e' (List.mem_filter.1 he' |>.1), ⟨by have := h.base.len.1; omega, Nat.le_trans (Nat.mul_le_mul_right _ hlen) h.base.len.2⟩, c1, hfew, fun q hq hqs => ?_⟩, h.up, fun j x' hj hx' => ?_, fun q hq hqs => ?_⟩
  · by_cases hqk : q = k
    · subst hqk
      rw [hwk]
      exact hlk
    · rw [hww q hq hqs hqk, (hoth q (by omega)).1]
      exact h.base.way q hq hqs
  · obtain ⟨q, e', tn, h1, h2, h3, h4, h5⟩ := h.msg j x' (by omega) hx'
    have hup := h.up i j x x' (by omega) hx hx'
    rw [hp, h5] at hup
    have hup : (k : Int) < (q : Int) := hup
    exact ⟨q, e', tn, h1, h2, by rw [(hoth q (by omega)).1]; exact h3, h4, h5⟩
  · by_cases hqk : q = k
    · subst hqk
      refine .inl ?_
      rw [hwk, c2]
      have h1 := Tm_le (c := cnt Q (q : Nat) - 1) hlk.1 (hh q) hcap
      rcases h.bnd q hq hqs with h2 | ⟨_, _, _, _, _, _, h2⟩
      · have h3 := Tm_low (y := ws q) (cp := cp) (cap := cap) (h := hol q) (cnt_pos he)
        omega
      · omega
    · rw [hww q hq hqs hqk, (hoth q (by omega)).2]
      rcases h.bnd q hq hqs with h1 | ⟨j, x', h1, h2, h3, h4, h5⟩
      · exact .inl h1
      · refine .inr ⟨j, x', ?_, h2, h3, h4, h5⟩
        rcases Nat.lt_or_ge i j with hlt | hge
        · omega
        · exfalso
          obtain rfl : j = i := by omega
          rw [hx] at h2
          injection h2 with h2
          subst h2
          rw [hp] at h3
          omega
/-- Behind the messages. -/
theorem Mid.done {ms : List SMsg} {t : Nat} (h : Mid n N cp cap sh hol lim ms ms.length t Q mk ws) : Bound N cp cap sh hol lim (t + 1) Q ws := fun k hk hs => by
  rcases h.bnd k hk hs with h1 | ⟨j, x, h1, h2, _⟩
  · omega
  · rw [List.getElem?_eq_none h1] at h2
    cases h2
/-- Behind the limit nothing is left. -/
theorem Drain.empty (h : Drain n N cp cap sh lim Q mk ws) (hb : Bound N cp cap sh hol lim (lim + 1) Q ws) : Q = [] := by
  cases hQ : Q with
  | nil => rfl
  | cons e r =>
    exfalso
    obtain ⟨p, h1, h2, h3⟩ := h.peer e (by rw [hQ]; exact List.mem_cons_self)
    have h4 : 1 ≤ cnt Q (p : Nat) := by
      unfold cnt
      rw [hQ]
      exact List.countP_pos_iff.2 ⟨e, List.mem_cons_self, by simp [h1]⟩
    have h5 := Tm_low (y := ws p) (cp := cp) (cap := cap) (h := hol p) h4
    have h6 := hb p h2 h3
    omega
/-- With nothing left a tick hands out nothing. -/
theorem Drain.idle (h : Drain n N cp cap sh lim [] mk ws) (node : Int) : msT node sh ws N = [] := by
  have : ∀ i, i ≤ N → msT node sh ws i = [] := by
    intro i
    induction i with
    | zero => intro _; rfl
    | succ i ih =>
      intro hi
      unfold msT
      rw [if_neg (fun hh => ?_), ih (by omega)]
      have h2 := (h.way i (by omega) hh.1).2
      have h3 : (ws i).there = false := h2
      have h4 := hh.2
      unfold Way.fires at h4
      rw [h3] at h4
      cases h4
  exact this N (Nat.le_refl _)
end
end Go.Proofs.Ytbgojhjlmlbfpaa
