/- Drawn regions one of whose operations may write into a block made ahead of it in the same region: what is written there is what will stand there in the end (OUR OWN relation for the lexical walk of XGrow). No condition. -/
import Derived.Test.YtikkhjcocmihlaaDoorGrow
import Derived.Test.YtikkhjcocmihlaaDoorOwn
namespace Go.Proofs.YtikkhjcocmihlaaDoor.grow
open Go.RowKit Go.Proofs.YtikkhjcocmihlaaDoor.lib

/-- memory that only grows, but for blocks of e's made here, whose cells from k on may turn into what shall stand there -/
structure Ext (n1 : Nat) (e : TypeId) (k : Nat) (tg : List Value) (w w' : World) : Prop where
  below : Below n1 w w'
  rows : ∀ b, b < w.heap.size → w'.heap[b]? = w.heap[b]? ∨ ∃ c c', w.heap[b]? = some (.cells c e (0, 0)) ∧ w'.heap[b]? = some (.cells c' e (0, 0)) ∧ c'.size = c.size ∧ ∀ j, c'[j]? = c[j]? ∨ (k ≤ j ∧ c'[j]? = tg[j]?)
section
variable {n1 : Nat} {e : TypeId} {k : Nat} {tg : List Value}
theorem Ext.refl (w : World) : Ext n1 e k tg w w := ⟨Below.refl _ _, fun _ _ => .inl rfl⟩
theorem Ext.of_below {w w' : World} (h : Below w.heap.size w w') (hn : n1 ≤ w.heap.size) : Ext n1 e k tg w w' := ⟨h.mono hn, fun b hb => .inl (h.block b hb)⟩
/-- a block of another type stays -/
theorem Ext.other {w w' : World} (h : Ext n1 e k tg w w') {b : Nat} {c : Array Value} {t : TypeId} (hb : w.heap[b]? = some (.cells c t (0, 0))) (ht : t ≠ e) : w'.heap[b]? = some (.cells c t (0, 0)) := by
  rcases h.rows b (Array.getElem?_eq_some_iff.1 hb).1 with h1 | ⟨c1, c2, h1, _⟩
  · rw [h1, hb]
  · rw [hb] at h1
    simp only [Option.some.injEq, Obj.cells.injEq] at h1
    exact absurd h1.2.1 ht
/-- a slice of the region's own whose first m cells are as they shall be; z: it has no room -/
def OwnP (n1 : Nat) (e : TypeId) (tg : List Value) (m : Nat) (z : Bool) : Value → World → Prop := fun v u =>
  ∃ g cur, v = .slice (some ⟨g, 0, none⟩) m cur.size ∧ n1 ≤ g ∧ u.heap[g]? = some (.cells cur e (0, 0)) ∧ m ≤ cur.size ∧ cur.size ≤ maxLen ∧ (z = true → cur.size = 0) ∧ ∀ j, j < m → cur[j]? = tg[j]?
theorem ownP_stays {m : Nat} {z : Bool} : ∀ v u u', Ext n1 e k tg u u' → OwnP n1 e tg m z v u → OwnP n1 e tg m z v u' := by
  rintro v u u' he ⟨g, cur, rfl, h1, h2, h3, h4, h5, h6⟩
  rcases he.rows g (Array.getElem?_eq_some_iff.1 h2).1 with h | ⟨c1, c2, k1, k2, k3, k4⟩
  · exact ⟨g, cur, rfl, h1, h.trans h2, h3, h4, h5, h6⟩
  · rw [h2] at k1
    simp only [Option.some.injEq, Obj.cells.injEq, and_true] at k1
    subst k1
    refine ⟨g, c2, by rw [k3], h1, k2, by omega, by omega, fun hz => by rw [k3]; exact h5 hz, fun j hj => ?_⟩
    rcases k4 j with h | ⟨_, h⟩
    · rw [h]; exact h6 j hj
    · exact h
theorem OwnP.sl {m : Nat} {z : Bool} {v : Value} {u : World} (h : OwnP n1 e tg m z v u) (hm : m ≤ tg.length) : Sl u v m 1 (tg.take m) := by
  obtain ⟨g, cur, rfl, h1, h2, h3, h4, h5, h6⟩ := h
  refine ⟨by rw [List.length_take, Nat.mul_one]; omega, _, _, rfl, h3, .inr ⟨g, 0, rfl, fun j q hj => ?_⟩⟩
  rw [Nat.zero_add, cell_of_row _ _ _ _ _ _ h2]
  have hjm : j < m := by
    have := (List.getElem?_eq_some_iff.1 hj).1
    rw [List.length_take] at this; omega
  rw [h6 j hjm]
  rw [List.getElem?_take, if_pos hjm] at hj
  exact hj
/-- a block of one cell, ahead of which nothing is written but what stands there -/
def OneP (n1 : Nat) (e : TypeId) (q : Value) : Value → World → Prop := fun v u => ∃ g, v = .slice (some ⟨g, 0, none⟩) 1 1 ∧ n1 ≤ g ∧ u.heap[g]? = some (.cells #[q] e (0, 0))
theorem oneP_stays {q : Value} (hq : tg[k]? = some q) : ∀ v u u', Ext n1 e k tg u u' → OneP n1 e q v u → OneP n1 e q v u' := by
  rintro v u u' he ⟨g, rfl, h1, h2⟩
  rcases he.rows g (Array.getElem?_eq_some_iff.1 h2).1 with h | ⟨c1, c2, k1, k2, k3, k4⟩
  · exact ⟨g, rfl, h1, h.trans h2⟩
  · rw [h2] at k1
    simp only [Option.some.injEq, Obj.cells.injEq, and_true] at k1
    subst k1
    refine ⟨g, rfl, h1, ?_⟩
    have h0 : c2[0]? = some q := by
      rcases k4 0 with h | ⟨hk, h⟩
      · rw [h]; rfl
      · obtain rfl : k = 0 := by omega
        rw [h, hq]
    have : c2 = #[q] := by
      apply Array.ext
      · rw [k3]
      · intro i hi hi2
        obtain rfl : i = 0 := by
          have e1 : (#[q] : Array Value).size = 1 := rfl
          omega
        have := (Array.getElem?_eq_some_iff.1 h0).2
        rw [this]; rfl
    rw [k2, this]
/-- 'append(own, src...)' -/
theorem append_tgt {P : Program} {t : TypeId} {z : Value} {bytes : Nat} (ht : P.underlying t = some (.slice e)) (hinfo : (P.info? e).map (fun i => (i.zero, i.size, i.bytes)) = some (some z, 1, bytes)) (hzs : z.cells.size = 1)
    {m l : Nat} {zb : Bool} {v : Value} {u : World} (ty : TypeId) (hv : OwnP n1 e tg m zb v u) (hn1 : n1 ≤ u.heap.size) (a : Addr) (c : Nat) (news : List Value) (hl : news.length = l) (hnews : ∀ j q, news[j]? = some q → u.cell? (a.add j) = some q)
    (h1 : ∀ q ∈ news, q.oneCell' = true) (htg : ∀ j, j < l → news[j]? = tg[m + j]?) (hk : k ≤ m ∨ zb = true) (h63 : m + l ≤ 1000000) (hb : bytes ≤ 1000000) :
    ∃ v' u', (Builtin.append_ #[t, t] ty #[v, .slice (some a) l c]).run P u = .ok v' u' ∧ OwnP n1 e tg (m + l) false v' u' ∧ Ext n1 e k tg u u' := by
  obtain ⟨i, hi, hz, hsize, hby⟩ := info_parts hinfo
  obtain ⟨g, cur, rfl, g1, g2, g3, g4, g5, g6⟩ := hv
  have hl' : news.length = l * i.size := by rw [hl, hsize, Nat.mul_one]
  by_cases hroom : m + l ≤ cur.size
  · have hr := run_append_room (P := P) u t ty e i ht hi g m cur.size cur g2 a l c news hl' hnews h1 hroom (by rw [hsize, Nat.mul_one, hl]; exact hroom)
    rw [hsize, Nat.mul_one, hl] at hr
    obtain ⟨cs, hcs⟩ : ∃ cs, (cur.toList.take m ++ news ++ cur.toList.drop (m + l)).toArray = cs := ⟨_, rfl⟩
    rw [hcs] at hr
    have hsz : cs.size = cur.size := by
      rw [← hcs]
      simp only [List.size_toArray, List.length_append, List.length_take, List.length_drop, Array.length_toList, hl]
      omega
    have hget : ∀ j, cs[j]? = if j < m then cur[j]? else if j < m + l then tg[j]? else cur[j]? := by
      intro j
      rw [← hcs]
      simp only [List.getElem?_toArray]
      have hlen : (cur.toList.take m).length = m := by rw [List.length_take, Array.length_toList]; omega
      by_cases hj : j < m
      · rw [if_pos hj, List.append_assoc, List.getElem?_append_left (by omega), List.getElem?_take, if_pos hj, Array.getElem?_toList]
      · rw [if_neg hj]
        by_cases hj2 : j < m + l
        · rw [if_pos hj2, List.append_assoc, List.getElem?_append_right (by omega), hlen, List.getElem?_append_left (by omega), htg _ (by omega)]
          congr 1; omega
        · rw [if_neg hj2, List.getElem?_append_right (by rw [List.length_append, hlen, hl]; omega), List.length_append, hlen, hl, List.getElem?_drop, Array.getElem?_toList]
          congr 1; omega
    refine ⟨_, _, hr, ⟨g, cs, by rw [hsz], g1, setRow_heap u g cur cs e _ g2, by omega, by omega, (fun h => by cases h), fun j hj => ?_⟩, ⟨rfl, rfl, rfl, by simp, fun b hb => setRow_other u g b cs (by omega)⟩, fun b hb => ?_⟩
    · rw [hget]
      by_cases hj2 : j < m
      · rw [if_pos hj2]; exact g6 j hj2
      · rw [if_neg hj2, if_pos hj]
    · by_cases hbg : b = g
      · subst hbg
        refine .inr ⟨cur, cs, g2, setRow_heap u b cur cs e _ g2, hsz, fun j => ?_⟩
        rw [hget]
        by_cases hj2 : j < m
        · rw [if_pos hj2]; exact .inl rfl
        · rw [if_neg hj2]
          by_cases hj3 : j < m + l
          · rw [if_pos hj3]
            rcases hk with hk | hk
            · exact .inr ⟨by omega, rfl⟩
            · have := g5 hk; omega
          · rw [if_neg hj3]; exact .inl rfl
      · exact .inl (setRow_other u g b cs hbg)
  · obtain ⟨v', u', hr, ho, hg⟩ := run_append_arg_grows (P := P) u t ty e i z 1 bytes ht hi hz hsize hby hzs (by decide) ⟨g, 0, none⟩ m cur.size (cur.toList.take m) (by rw [List.length_take, Array.length_toList, Nat.mul_one]; omega)
      (fun j q hj => by
        rw [Addr.add_lit, Nat.zero_add, cell_of_row _ _ _ _ _ _ g2]
        rw [List.getElem?_take] at hj
        split at hj
        · rw [Array.getElem?_toList] at hj; exact hj
        · cases hj) a l c news (by rw [hl, Nat.mul_one]) hnews (by omega) (by unfold maxLen; omega) (by
          have := Nat.mul_le_mul h63 hb
          omega)
    rcases ho.2 with ⟨_, h0⟩ | ⟨g', cap', cur', rfl, h2, h3, h4, h5, h6, h7⟩
    · omega
    rw [Nat.mul_one] at h6 h7
    refine ⟨_, _, hr, ⟨g', cur', by rw [h6], Nat.le_trans hn1 h2, h3, by omega, by omega, (fun h => by cases h), fun j hj => ?_⟩, ⟨hg.os, hg.tape, hg.output, hg.size, fun b hb => hg.block b (by omega) (by simp)⟩, fun b hb => .inl (hg.block b hb (by simp))⟩
    have e1 : (cur'.toList.take (m + l))[j]? = cur'[j]? := by rw [List.getElem?_take, if_pos hj, Array.getElem?_toList]
    rw [← e1, h7]
    have hlen : (cur.toList.take m).length = m := by rw [List.length_take, Array.length_toList]; omega
    by_cases hj2 : j < m
    · rw [List.getElem?_append_left (by omega), List.getElem?_take, if_pos hj2, Array.getElem?_toList]; exact g6 j hj2
    · rw [List.getElem?_append_right (by omega), hlen, htg _ (by omega)]
      congr 1; omega
/-- as a step of the lexical walk -/
theorem grow_append {P : Program} {R : Value → World → Prop} {E : World → World → Prop} {o : Oper} {a : Act} {t : TypeId} {s x : Operand} {v v' src : Value} {w w' : World} (ho : o.op = .call { callee := .builtin .append, args := #[s, x], argTypes := #[t, t] })
    (hs : a.eval s = v) (hx : a.eval x = src) (hrun : (Builtin.append_ #[t, t] o.type #[v, src]).run P w = .ok v' w') (h : R v' w' ∧ E w w') : growUpon P (fun u w' => R u w' ∧ E w w') ((execOp a.eval o).run P w) := by
  have : (execOp a.eval o).run P w = .ok (.value v') w' := by
    simp [execOp, ho, resolve, invoke, builtin, hs, hx, hrun, Result.andThen]
  rw [this]; exact h
/-- what is made -/
theorem ownP_made (u : World) (hn1 : n1 ≤ u.heap.size) : OwnP n1 e tg 0 true (.slice (some ⟨u.heap.size, 0, none⟩) 0 0) (u.alloc (.cells #[] e)) :=
  ⟨u.heap.size, #[], rfl, hn1, heap_alloc_new _ _, Nat.zero_le _, Nat.zero_le _, fun _ => rfl, fun _ hj => absurd hj (Nat.not_lt_zero _)⟩
end
def StayE (E : World → World → Prop) : List (Nat × (Value → World → Prop)) → Prop
  | [] => True
  | (_, R) :: l => (∀ v w w', E w w' → R v w → R v w') ∧ StayE E l
theorem relOf_stE {E : World → World → Prop} : ∀ (l : List (Nat × (Value → World → Prop))), StayE E l → ∀ i R, relOf l i = some R → ∀ v w w', E w w' → R v w → R v w'
  | [], _, _, _, h => by cases h
  | (k, R') :: l, hs, i, R, h => by
    unfold relOf at h
    split at h
    · cases h; exact hs.1
    · exact relOf_stE l hs.2 i R h
/-- the region's lexical walk with that relation -/
theorem wp_region_tgt {P : Program} {id : Nat} {Q : Exit → Act → World → Prop} {a : Act} {w : World} {l : List Oper} (e : TypeId) (k : Nat) (tg : List Value) (rels : List (Nat × (Value → World → Prop))) (hs : StayE (Ext w.heap.size e k tg) rels)
    (hm : P.follows .mixedOrders = true) (hB : Region.lexB .any l.toArray = true)
    (h : wpG P l.toArray (Ext w.heap.size e k tg) (fun u => Below w.heap.size w u) (relOf rels) (fun a' F => ∀ w', Below w.heap.size w w' → (∀ k, F k w') → Q .normal a' w') 0 l a noFacts) : (Code.region id l.toArray true).wp P Q a w :=
  wp_region_grow _ _ _ ⟨fun _ => Ext.refl _, fun _ _ h1 h2 => h1.trans h2.below, relOf_stE rels hs⟩ ((Below.refl _ _).drew) hm hB h
end Go.Proofs.YtikkhjcocmihlaaDoor.grow
