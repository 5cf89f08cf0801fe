/- A slice of the call's own that may begin inside its block: one more behind it, the first one off. No condition. -/
import Derived.Test.YtmfhmikihnjkcaaDoorApart
namespace Go.Proofs.YtmfhmikihnjkcaaDoor.lib
open Go.RowKit

/-- The slice value is the cells xs, in a block that may be written. -/
def OffOwn (w : World) (e : TypeId) (v : Value) (xs : List Value) : Prop :=
  (v = .slice none 0 0 ∧ xs = []) ∨
  ∃ g off cap cur, v = .slice (some ⟨g, off, none⟩) xs.length cap ∧ w.heap[g]? = some (.cells cur e (0, 0)) ∧ xs.length ≤ cap ∧ cap ≤ maxLen ∧ off + cap ≤ cur.size ∧ (cur.toList.drop off).take xs.length = xs

theorem OffOwn.nil (w : World) (e : TypeId) : OffOwn w e (.slice none 0 0) [] := .inl ⟨rfl, rfl⟩
theorem OffOwn.keep {w w' : World} {e : TypeId} {v : Value} {xs : List Value} (h : OffOwn w e v xs) (hk : ∀ g, v.ownBlock = some g → w'.heap[g]? = w.heap[g]?) : OffOwn w' e v xs := by
  rcases h with h | ⟨g, off, cap, cur, rfl, h1, h2⟩
  · exact .inl h
  · exact .inr ⟨g, off, cap, cur, rfl, by rw [hk g rfl, h1], h2⟩
theorem OffOwn.lt {w : World} {e : TypeId} {v : Value} {xs : List Value} (h : OffOwn w e v xs) {g : Nat} (hg : v.ownBlock = some g) : g < w.heap.size := by
  rcases h with ⟨rfl, _⟩ | ⟨g', off, cap, cur, rfl, h1, h2⟩
  · cases hg
  · cases hg
    exact (Array.getElem?_eq_some_iff.1 h1).1
theorem OffOwn.cells {w : World} {e : TypeId} {v : Value} {xs : List Value} (h : OffOwn w e v xs) : ∃ a c, v = .slice a xs.length c ∧ xs.length ≤ c ∧ (xs = [] ∨ ∃ b off, a = some ⟨b, off, none⟩ ∧ ∀ j u, xs[j]? = some u → w.cell? ⟨b, off + j, none⟩ = some u) := by
  rcases h with ⟨rfl, rfl⟩ | ⟨g, off, cap, cur, rfl, h1, h2, h3, h4, h5⟩
  · exact ⟨none, 0, rfl, Nat.le_refl _, .inl rfl⟩
  · refine ⟨_, _, rfl, h2, .inr ⟨g, off, rfl, fun j u hu => ?_⟩⟩
    have hj : j < xs.length := (List.getElem?_eq_some_iff.1 hu).1
    rw [← h5, List.getElem?_take, if_pos hj, List.getElem?_drop] at hu
    simp [World.cell?, h1]
    simpa using hu
theorem OffOwn.val {w : World} {e : TypeId} {v : Value} {xs : List Value} (h : OffOwn w e v xs) : ∃ a n c, v = .slice a n c := by
  obtain ⟨a, c, h, _⟩ := h.cells; exact ⟨a, _, c, h⟩
theorem OffOwn.sl {w : World} {e : TypeId} {v : Value} {xs : List Value} (h : OffOwn w e v xs) : Sl w v xs.length 1 xs := by
  obtain ⟨a, c, h1, h2, h3⟩ := h.cells
  exact ⟨by simp, a, c, h1, h2, h3⟩
/-- the first one off -/
theorem OffOwn.tail {w : World} {e : TypeId} {a : Option Addr} {n c : Nat} {x : Value} {xs : List Value} (h : OffOwn w e (.slice a n c) (x :: xs)) :
    ∃ g off, a = some ⟨g, off, none⟩ ∧ n = xs.length + 1 ∧ n ≤ c ∧ w.cell? ⟨g, off, none⟩ = some x ∧ OffOwn w e (.slice (if c = 1 then a else a.map (·.add 1)) xs.length (c - 1)) xs := by
  have hc := h.cells
  rcases h with ⟨_, h⟩ | ⟨g, off, cap, cur, hv, h1, h2, h3, h4, h5⟩
  · cases h
  · simp only [Value.slice.injEq] at hv
    obtain ⟨rfl, rfl, rfl⟩ := hv
    obtain ⟨a', c', he, _, hc⟩ := hc
    simp only [Value.slice.injEq] at he
    obtain ⟨rfl, _, rfl⟩ := he
    rcases hc with hc | ⟨b, o, hb, hc⟩
    · cases hc
    · cases hb
      refine ⟨g, off, rfl, rfl, h2, by have := hc 0 x rfl; rwa [Nat.add_zero] at this, ?_⟩
      rw [List.length_cons] at h2 h5
      have ht : (cur.toList.drop (off + 1)).take xs.length = xs := by
        have hlt : off < cur.toList.length := by rw [Array.length_toList]; omega
        rw [List.drop_eq_getElem_cons hlt, List.take_succ_cons] at h5
        exact (List.cons.inj h5).2
      by_cases h6 : c = 1
      · have hx : xs = [] := List.eq_nil_of_length_eq_zero (by omega)
        subst hx
        rw [if_pos h6]
        exact .inr ⟨g, off, c - 1, cur, rfl, h1, by simp, by omega, by omega, by simp⟩
      · rw [if_neg h6]
        exact .inr ⟨g, off + 1, c - 1, cur, by simp [Addr.add], h1, by omega, by omega, by omega, ht⟩

section
variable {P : Program} (w : World)
theorem run_append_off (t ty e : TypeId) (i : TypeInfo) (z : Value) (bytes : Nat) (ht : P.underlying t = some (.slice e)) (hi : P.info? e = some i) (hz : i.zero = some z)
    (hsize : i.size = 1) (hby : i.bytes = bytes) (hzs : z.cells.size = 1) (v : Value) (xs : List Value) (hown : OffOwn w e v xs)
    (a : Addr) (c : Nat) (x : Value) (hx : w.cell? a = some x) (h1 : x.oneCell' = true)
    (h63 : xs.length + 1 ≤ maxLen) (hbytes : (xs.length + 1) * bytes ≤ 140737488355328) :
    ∃ v' w', (Builtin.append_ #[t, t] ty #[v, .slice (some a) 1 c]).run P w = .ok v' w' ∧ OffOwn w' e v' (xs ++ [x]) ∧ w.grownBy w' v.ownBlock ∧
      (v'.ownBlock = v.ownBlock ∨ ∃ k, v'.ownBlock = some k ∧ w.heap.size ≤ k) := by
  subst hby
  have hnews : ∀ j u, ([x] : List Value)[j]? = some u → w.cell? (a.add j) = some u := by
    intro j u hu
    cases j with
    | zero => simp at hu; subst hu; simpa [Addr.add] using hx
    | succ j => simp at hu
  have hl : ([x] : List Value).length = 1 * i.size := by rw [hsize]; rfl
  have grown : ∀ (old : Nat), old < xs.length + 1 → ∀ (row : Option Nat),
      OffOwn (w.drew.alloc (.cells (xs.toArray ++ [x].toArray ++ Builtin.zeroCells z.cells (grownCap w (xs.length + 1) old e - (xs.length + 1))) e)) e
        (.slice (some ⟨w.heap.size, 0, none⟩) (xs.length + 1) (grownCap w (xs.length + 1) old e)) (xs ++ [x]) ∧
      w.grownBy (w.drew.alloc (.cells (xs.toArray ++ [x].toArray ++ Builtin.zeroCells z.cells (grownCap w (xs.length + 1) old e - (xs.length + 1))) e)) row := by
    intro old ho row
    have hge := grownCap_ge w (xs.length + 1) old e
    have hcm : grownCap w (xs.length + 1) old e ≤ maxLen := grownCap_le_maxLen w (xs.length + 1) old e h63
    have hlx : (xs ++ [x]).length = xs.length + 1 := by simp
    refine ⟨.inr ⟨w.heap.size, 0, _, _, by rw [hlx], heap_alloc_new w.drew _, by rw [hlx]; exact hge, hcm, ?_, ?_⟩, ⟨rfl, rfl, rfl, by simp, fun k hk _ => Below.heap_alloc w.drew _ _ hk⟩⟩
    · simp only [Array.size_append, List.size_toArray, size_zeroCells, hzs, List.length_singleton]
      omega
    · simp only [Array.toList_append, List.drop_zero]
      exact List.take_left
  rcases hown with ⟨rfl, rfl⟩ | ⟨g, off, cap, cur, rfl, hg, hnc, hcm, hcs, htake⟩
  · have hb := hbytes
    simp only [List.length_nil, Nat.zero_add, Nat.one_mul] at hb
    have hr := run_append_nil (P := P) w t ty e i z ht hi hz a 1 c [x] hl hnews (by omega) (by omega) (by omega)
    have hgr := grown 0 (by simp) (Value.ownBlock (.slice none 0 0))
    simp only [List.length_nil, Nat.zero_add, List.nil_append, Array.empty_append] at hgr ⊢
    exact ⟨_, _, hr, hgr.1, hgr.2, .inr ⟨_, rfl, Nat.le_refl _⟩⟩
  · by_cases hroom : xs.length + 1 ≤ cap
    · have hf := run_firstCells_some (P := P) w i.size 1 a 1 c [x] hl hnews
      have hst := run_storeCells_at P g (off + xs.length) e [x] 0 cur w hg (by simp; omega) (by intro u hu; rw [List.mem_singleton.1 hu]; exact h1)
      simp only [Nat.add_zero, List.length_singleton] at hst
      have hr : (Builtin.append_ #[t, t] ty #[.slice (some ⟨g, off, none⟩) xs.length cap, .slice (some a) 1 c]).run P w =
        .ok (.slice (some ⟨g, off, none⟩) (xs.length + 1) cap) (w.setRow g (cur.toList.take (off + xs.length) ++ [x] ++ cur.toList.drop (off + xs.length + 1)).toArray) := by
        rw [hsize] at hf
        simp [Builtin.append_, run_underlying ht, sizeOf, typeInfo, hi, Builtin.lenOf, hroom, hf, hsize, Addr.add_lit]
        simp at hst
        simp [hst]
      refine ⟨_, _, hr, .inr ⟨g, off, cap, _, by simp, setRow_heap w g cur _ e _ hg, by simpa using hroom, hcm, ?_, ?_⟩, ⟨rfl, rfl, rfl, by simp, fun k _ hk => setRow_other w g k _ (fun e => hk (by simp [Value.ownBlock, e]))⟩, .inl rfl⟩
      · simp only [List.size_toArray, List.length_append, List.length_take, List.length_drop, Array.length_toList, List.length_singleton]
        omega
      · have hlo : (cur.toList.take off).length = off := by rw [List.length_take, Array.length_toList]; omega
        have e1 : cur.toList.take (off + xs.length) = cur.toList.take off ++ xs := by
          rw [List.take_add, htake]
        rw [e1, List.append_assoc, List.append_assoc, List.drop_append, hlo, Nat.sub_self, List.drop_zero]
        rw [List.drop_eq_nil_of_le (by omega), List.nil_append, ← List.append_assoc]
        exact List.take_left
    · have holds : ∀ j u, xs[j]? = some u → w.cell? ((⟨g, off, none⟩ : Addr).add j) = some u := by
        intro j u hu
        have hj : j < xs.length := (List.getElem?_eq_some_iff.1 hu).1
        rw [← htake, List.getElem?_take, if_pos hj, List.getElem?_drop] at hu
        rw [Addr.add_lit]
        simp [World.cell?, hg]
        simpa using hu
      have hr := run_append_grow (P := P) w t ty e i z ht hi hz ⟨g, off, none⟩ xs.length cap xs (by rw [hsize]; simp) holds a 1 c [x] hl hnews (by omega) (by unfold maxLen at h63; omega) (growslice_fits (by omega) hbytes)
      have hgr := grown cap (by omega) (Value.ownBlock (.slice (some ⟨g, off, none⟩) xs.length cap))
      exact ⟨_, _, hr, hgr.1, hgr.2, .inr ⟨_, rfl, Nat.le_refl _⟩⟩

/-- 'append(v, x)': the literal's block lies at the world's end. -/
theorem wpList_append_off (arr : Array Value) {ops : Array Oper} {rest : List Oper} {o : Oper} {a : Act} {Q : Exit → Act → World → Prop} (hgd : o.guard = none) (s x : Operand) (t : TypeId)
    (ho : o.op = .call { callee := .builtin .append, args := #[s, x], argTypes := #[t, t] })
    (e : TypeId) (z : Value) (bytes B : Nat) (ht : P.underlying t = some (.slice e)) (hinfo : (P.info? e).map (fun i => (i.zero, i.size, i.bytes)) = some (some z, 1, bytes)) (hzs : z.cells.size = 1)
    (v : Value) (xs : List Value) (u : Value) (hown : OffOwn w e v xs) (hs : a.eval s = v) (hx : a.eval x = .slice (some ⟨B, 0, none⟩) 1 1) (hB : w.heap.size = B) (harr : arr = #[u]) (h1 : u.oneCell' = true)
    (h63 : xs.length + 1 ≤ maxLen) (hbytes : (xs.length + 1) * bytes ≤ 140737488355328)
    (h : ∀ v' w', OffOwn w' e v' (xs ++ [u]) → w.grownBy w' v.ownBlock → (v'.ownBlock = v.ownBlock ∨ ∃ k, v'.ownBlock = some k ∧ w.heap.size ≤ k) → wpList P ops Q rest (a.put o.dst v') w') : wpList P ops Q (o :: rest) a (w.alloc (.cells arr e)) := by
  subst harr
  subst hB
  obtain ⟨i, hi, hz, hsize, hby⟩ := info_parts hinfo
  have ho1 : OffOwn (w.alloc (.cells #[u] e)) e v xs := hown.keep fun g hg => Below.heap_alloc w _ _ (hown.lt hg)
  obtain ⟨v', w', hr, r1, r2, r3⟩ := run_append_off (P := P) (w.alloc (.cells #[u] e)) t o.type e i z bytes ht hi hz hsize hby hzs v xs ho1 ⟨w.heap.size, 0, none⟩ 1 u (by rw [World.cell?_alloc_at _ _ _ _ rfl]; rfl) h1 h63 hbytes
  refine wpList_plain hgd fun K hK' => ?_
  unfold Oper.wp
  simp [execOp, ho, resolve, invoke, builtin, hs, hx, hr, Result.andThen]
  refine hK' _ _ (h v' w' r1 ⟨r2.os, r2.tape, r2.output, Nat.le_trans (by simp) r2.size, fun k hk hne => ?_⟩ ?_)
  · rw [r2.block k (by simp; omega) hne]
    exact Below.heap_alloc w _ _ hk
  · rcases r3 with r3 | ⟨k, r3, hk⟩
    · exact .inl r3
    · exact .inr ⟨k, r3, by simp at hk; omega⟩
end
end Go.Proofs.YtmfhmikihnjkcaaDoor.lib
