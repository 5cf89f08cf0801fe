/- Small words and laws for the walks of this seat: a slice value that reads as a list of cells, a slice of the call's own that grows. No condition. -/
import Derived.WalkKit
import Derived.WalkSpells
import Derived.WalkLawsBesides
import Derived.Handy
import Derived.Deep.RegionLaw
namespace Go.Proofs.YtloeaihbnnnncaaGreatDoor.lib
open Go.RowKit

theorem hid {p : Prop} (h : p) : Hid p := h

/-- The slice value v of n elements reads as the cells xs. -/
def Sl (w : World) (v : Value) (n size : Nat) (xs : List Value) : Prop :=
  xs.length = n * size ∧ ∃ a c, v = .slice a n c ∧ n ≤ c ∧ (xs = [] ∨ ∃ b off, a = some ⟨b, off, none⟩ ∧ ∀ j u, xs[j]? = some u → w.cell? ⟨b, off + j, none⟩ = some u)

theorem Sl.below {w w' : World} {v : Value} {n size : Nat} {xs : List Value} (h : Sl w v n size xs) (hb : Below w.heap.size w w') : Sl w' v n size xs := by
  obtain ⟨hl, a, c, rfl, hcap, h⟩ := h
  refine ⟨hl, a, c, rfl, hcap, ?_⟩
  rcases h with h | ⟨b, off, rfl, h⟩
  · exact .inl h
  · refine .inr ⟨b, off, rfl, fun j u hu => ?_⟩
    have hc := h j u hu
    rw [hb.cell (p := ⟨b, off + j, none⟩) (World.block_lt_of_cell? w _ hc)]
    exact hc

/-- the cell of an element of one cell -/
theorem Sl.at1 {w : World} {a : Option Addr} {n c : Nat} {xs : List Value} (h : Sl w (.slice a n c) n 1 xs) {k : Nat} (hk : k < n) :
    ∃ b off, a = some ⟨b, off, none⟩ ∧ ∃ u, xs[k]? = some u ∧ w.cell? ⟨b, off + k, none⟩ = some u := by
  obtain ⟨hl, a', c', he, _, h⟩ := h
  simp only [Value.slice.injEq] at he
  obtain ⟨rfl, _, _⟩ := he
  have hk' : k < xs.length := by omega
  rcases h with h | ⟨b, off, rfl, h⟩
  · subst h; simp at hk'
  · exact ⟨b, off, rfl, xs[k], List.getElem?_eq_getElem hk', h k _ (List.getElem?_eq_getElem hk')⟩
theorem Sl.ints {w : World} {a : Option Addr} {n c : Nat} {K : IntKind} {zs : List Int} (h : Sl w (.slice a n c) n 1 (zs.map (.int K))) {k : Nat} (hk : k < zs.length) :
    ∃ b off, a = some ⟨b, off, none⟩ ∧ w.cell? ⟨b, off + k, none⟩ = some (.int K zs[k]) := by
  have hn : n = zs.length := by have := h.1; simp at this; exact this.symm
  obtain ⟨b, off, rfl, u, hu, hc⟩ := h.at1 (k := k) (by omega)
  refine ⟨b, off, rfl, ?_⟩
  rw [List.getElem?_map, List.getElem?_eq_getElem hk] at hu
  simp at hu
  rw [hc, hu]

theorem sl_of_owns {w : World} {base : Nat} {e : TypeId} {size : Nat} {v : Value} {n : Nat} {xs : List Value} (h : w.ownsRow base e size v n xs) : Sl w v n size xs := by
  refine ⟨h.1, ?_⟩
  have hl := h.1
  have hc := @World.ownsRow.cells w base e size v n xs h
  rcases h.2 with ⟨rfl, rfl⟩ | ⟨g, cap, cur, rfl, _, _, hcap, _⟩
  · exact ⟨none, 0, rfl, Nat.le_refl _, .inl (List.eq_nil_of_length_eq_zero (by simpa using hl))⟩
  · refine ⟨_, _, rfl, hcap, .inr ⟨g, 0, rfl, fun j u hu => ?_⟩⟩
    have := hc (g := g) rfl j u hu
    rw [Addr.add_lit] at this
    exact this

/-- A slice of the call's own, begun at the world w0. -/
structure Out (w0 w : World) (e : TypeId) (size : Nat) (v : Value) (n : Nat) (xs : List Value) : Prop where
  own : w.ownsRow w0.heap.size e size v n xs
  below : Below w0.heap.size w0 w

theorem Out.sl {w0 w : World} {e : TypeId} {size : Nat} {v : Value} {n : Nat} {xs : List Value} (h : Out w0 w e size v n xs) : Sl w v n size xs := sl_of_owns h.own

theorem Out.nil (w : World) (e : TypeId) (size : Nat) : Out w w e size (.slice none 0 0) 0 [] := ⟨World.ownsRow_nil _ _ _ _, Below.refl _ _⟩

theorem Out.alloc {w0 w : World} {e : TypeId} {size : Nat} {v : Value} {n : Nat} {xs : List Value} (h : Out w0 w e size v n xs) (o : Obj) : Out w0 (w.alloc o) e size v n xs :=
  ⟨h.own.alloc o, h.below.alloc h.below.size o⟩

theorem Out.drew {w0 w : World} {e : TypeId} {size : Nat} {v : Value} {n : Nat} {xs : List Value} (h : Out w0 w e size v n xs) : Out w0 w.drew e size v n xs :=
  ⟨h.own.drew, h.below.drew⟩

/-- what lies outside: other blocks, written or made behind it -/
theorem Out.later {w0 w w' : World} {e : TypeId} {size : Nat} {v : Value} {n : Nat} {xs : List Value} (h : Out w0 w e size v n xs) (hb : Below w.heap.size w w') : Out w0 w' e size v n xs := by
  refine ⟨h.own.kept (row := none) ⟨hb.os, hb.tape, hb.output, hb.size, fun k hk _ => hb.block k hk⟩ (by cases hv : v.ownBlock <;> simp), h.below.trans (hb.mono h.below.size)⟩

/-- 'append(out, x, y, ..)': the literal's block lies at the world's end. -/
theorem wpList_append_lit {P : Program} (w0 W : World) (arr : Array Value) {ops : Array Oper} {rest : List Oper} {o : Oper} {a : Act} {Q : Exit → Act → World → Prop} (hgd : o.guard = none) (s x : Operand) (t : TypeId)
    (ho : o.op = .call { callee := .builtin .append, args := #[s, x], argTypes := #[t, t] })
    (e : TypeId) (z : Value) (size bytes m : Nat) (ht : P.underlying t = some (.slice e)) (hinfo : (P.info? e).map (fun i => (i.zero, i.size, i.bytes)) = some (some z, size, bytes))
    (hzs : z.cells.size = size) (hsz : 0 < size)
    (v : Value) (n : Nat) (xs : List Value) (hout : Out w0 W e size v n xs) (hs : a.eval s = v)
    (hx : a.eval x = .slice (some ⟨W.heap.size, 0, none⟩) m m) (hl : arr.size = m * size) (h1 : ∀ u ∈ arr.toList, u.oneCell' = true)
    (h63 : (n + m) * bytes ≤ 140737488355328) (h64 : n + m ≤ 140737488355328)
    (h : ∀ v' w', Out w0 w' e size v' (n + m) (xs ++ arr.toList) → W.grownBy w' v.ownBlock → wpList P ops Q rest (a.put o.dst v') w') : wpList P ops Q (o :: rest) a (W.alloc (.cells arr e)) := by
  obtain ⟨i, hi, hz, hsize, hby⟩ := info_parts hinfo
  have ho1 := hout.alloc (.cells arr e)
  refine wpList_append_own _ hgd s x t ho w0.heap.size e i z size bytes ht hi hz hsize hby hzs hsz v n xs hs ho1.own ⟨W.heap.size, 0, none⟩ m m arr.toList hx (by simpa using hl) ?_ h1 (by unfold maxLen; omega) h63 ho1.below.size ?_
  · intro j u hu
    rw [Addr.add_lit, World.cell?_alloc_at _ _ _ _ rfl]
    simpa using hu
  · intro v' w' h1 h2 _
    have hv : ∀ k, v.ownBlock = some k → w0.heap.size ≤ k := fun k hk => (hout.own.lt k hk).1
    have hv2 : ∀ k, v.ownBlock = some k → k < W.heap.size := fun k hk => (hout.own.lt k hk).2
    refine h v' w' ⟨h1, ho1.below.grown h2 ho1.below.size hv⟩ ⟨h2.os, h2.tape, h2.output, Nat.le_trans (by simp) h2.size, fun k hk hne => ?_⟩
    rw [h2.block k (by simp; omega) hne]
    exact Below.heap_alloc _ _ _ hk

theorem strOfNums_append (xs ys : List Int) : strOfNums (xs ++ ys) = strOfNums xs ++ strOfNums ys := by
  apply ByteArray.ext
  apply Array.toList_inj.1
  rw [ByteArray.data_append, Array.toList_append, strOfNums_data, strOfNums_data, strOfNums_data, List.map_append]

theorem str_eq_of {a b : ByteArray} (h : (a.toList == b.toList) = true) : a = b := by
  rw [ByteArray.toList_eq, ByteArray.toList_eq] at h
  exact ByteArray.ext (Array.toList_inj.1 (by simpa using h))
theorem str_ne_of {a b : ByteArray} (h : (a.toList == b.toList) = false) : a ≠ b := by
  intro e; subst e; simp at h
theorem str_eqb {a b : ByteArray} (h : a = b) : (a.toList == b.toList) = true := by subst h; simp
theorem str_neb {a b : ByteArray} (h : a ≠ b) : (a.toList == b.toList) = false := by
  cases hb : a.toList == b.toList with
  | false => rfl
  | true => exact absurd (str_eq_of hb) h

/-- a literal's block -/
theorem Sl.lit (w : World) (arr : Array Value) (e : TypeId) (n size : Nat) (h : arr.size = n * size) : Sl (w.alloc (.cells arr e)) (.slice (some ⟨w.heap.size, 0, none⟩) n n) n size arr.toList :=
  ⟨by simpa using h, _, _, rfl, Nat.le_refl _, .inr ⟨_, _, rfl, fun j u hu => by rw [Nat.zero_add, World.cell?_alloc_at _ _ _ _ rfl]; simpa using hu⟩⟩
theorem Sl.val {w : World} {v : Value} {n size : Nat} {xs : List Value} (h : Sl w v n size xs) : ∃ a c, v = .slice a n c := by
  obtain ⟨_, a, c, rfl, _, _⟩ := h; exact ⟨a, c, rfl⟩
theorem ext_alloc (w : World) (o : Obj) : Below w.heap.size w (w.alloc o) := (Below.refl _ _).alloc (Nat.le_refl _) o

/-- 'string(bytes)' -/
theorem run_conv_str {P : Program} {w : World} {src dst e : TypeId} (hs : P.underlying src = some (.slice e)) (he : P.underlying e = some (.int .u8)) (hd : P.underlying dst = some .string) {v : Value} {n : Nat} {xs : List Int}
    (h : Sl w v n 1 (xs.map (.int .u8))) : (convert src dst v).run P w = .ok (.string (strOfNums xs)) w := by
  obtain ⟨hl, a, c, rfl, _, h⟩ := h
  have hn : xs.length = n := by simpa using hl
  cases a with
  | none =>
    rcases h with h | ⟨b, off, hh, _⟩
    · have : xs = [] := by simpa using h
      subst this
      rw [run_convert_bytes_nil w src e hs he n c dst hd]
      rfl
    · cases hh
  | some ad =>
    rcases h with h | ⟨b, off, hh, hc⟩
    · have : xs = [] := by simpa using h
      subst this
      obtain ⟨b, off, sp⟩ := ad
      simp at hn
      subst hn
      rw [run_convert_bytes_string w src dst e _ 0 c hs he hd]
      rfl
    · obtain rfl := Option.some.inj hh
      exact run_convert_bytes_arg w src e hs he b off n c xs hn (fun i hi => hc i _ (by simp [hn ▸ hi, List.getD])) dst hd

/-- 'append(out, x, ..)' as one step of a region that draws. -/
theorem step_append_out {P : Program} (w0 W : World) (arr : Array Value) {ops : Array Oper} {o : Oper} {a : Act} {K : Act → World → Prop} {Q : Exit → Act → World → Prop} {E : Prop} (hgd : o.guard = none) (s x : Operand) (t : TypeId)
    (ho : o.op = .call { callee := .builtin .append, args := #[s, x], argTypes := #[t, t] })
    (e : TypeId) (z : Value) (size bytes m : Nat) (ht : P.underlying t = some (.slice e)) (hinfo : (P.info? e).map (fun i => (i.zero, i.size, i.bytes)) = some (some z, size, bytes))
    (hzs : z.cells.size = size) (hsz : 0 < size)
    (v : Value) (n : Nat) (xs : List Value) (hout : Out w0 W e size v n xs) (hs : a.eval s = v)
    (hx : a.eval x = .slice (some ⟨W.heap.size, 0, none⟩) m m) (hl : arr.size = m * size) (h1 : ∀ u ∈ arr.toList, u.oneCell' = true)
    (h63 : (n + m) * bytes ≤ 140737488355328) (h64 : n + m ≤ 140737488355328)
    (h : ∀ v' w', Out w0 w' e size v' (n + m) (xs ++ arr.toList) → W.grownBy w' v.ownBlock → K (a.put o.dst v') w') :
    if Region.wanted o (yielded ops a.tmps) = true then Oper.wp P o a (W.alloc (.cells arr e)) K Q else E := by
  have hw : Region.wanted o (yielded ops a.tmps) = true := by simp [Region.wanted, hgd]
  rw [if_pos hw]
  obtain ⟨i, hi, hz, hsize, hby⟩ := info_parts hinfo
  have ho1 := hout.alloc (.cells arr e)
  refine wp_append_own _ s x t ho w0.heap.size e i z size bytes ht hi hz hsize hby hzs hsz v n xs hs ho1.own ⟨W.heap.size, 0, none⟩ m m arr.toList hx (by simpa using hl) ?_ h1 (by unfold maxLen; omega) h63 ho1.below.size ?_
  · intro j u hu
    rw [Addr.add_lit, World.cell?_alloc_at _ _ _ _ rfl]
    simpa using hu
  · intro v' w' h1 h2 _
    have hv : ∀ k, v.ownBlock = some k → w0.heap.size ≤ k := fun k hk => (hout.own.lt k hk).1
    refine h v' w' ⟨h1, ho1.below.grown h2 ho1.below.size hv⟩ ⟨h2.os, h2.tape, h2.output, Nat.le_trans (by simp) h2.size, fun k hk hne => ?_⟩
    rw [h2.block k (by simp; omega) hne]
    exact Below.heap_alloc _ _ _ hk

/-- what lies below the own row stays -/
theorem Sl.grownBy {w w' : World} {v : Value} {n size : Nat} {xs : List Value} {row : Option Nat} (h : Sl w v n size xs) (hg : w.grownBy w' row) (hne : ∀ k, v.ownBlock = some k → k < w.heap.size → some k ≠ row) : Sl w' v n size xs := by
  obtain ⟨hl, a, c, rfl, hcap, h⟩ := h
  refine ⟨hl, a, c, rfl, hcap, ?_⟩
  rcases h with h | ⟨b, off, rfl, h⟩
  · exact .inl h
  · exact .inr ⟨b, off, rfl, fun j u hu => hg.cell (h j u hu) (hne b rfl (World.block_lt_of_cell? w _ (h j u hu)))⟩

/-- the length in a slice's header -/
def slen : Value → Nat | .slice _ n _ => n | _ => 0

theorem run_append_none' {P : Program} {w : World} (base : Nat) (t ty e : TypeId) (i : TypeInfo) (size c : Nat) (ht : P.underlying t = some (.slice e)) (hi : P.info? e = some i)
    (v : Value) (n : Nat) (xs : List Value) (hown : w.ownsRow base e size v n xs) :
    (Builtin.append_ #[t, t] ty #[v, .slice none 0 c]).run P w = .ok v w := by
  rcases hown.2 with ⟨rfl, rfl⟩ | ⟨g, cap, cur, rfl, _, _, hnc, _⟩
  · simp [Builtin.append_, run_underlying ht, sizeOf, typeInfo, hi, Builtin.lenOf, Builtin.firstCells]
  · simp [Builtin.append_, run_underlying ht, sizeOf, typeInfo, hi, Builtin.lenOf, Builtin.firstCells, hnc, storeCells]

/-- 'append(out, src...)' -/
theorem wpList_append_src {P : Program} (w0 W : World) {ops : Array Oper} {rest : List Oper} {o : Oper} {a : Act} {Q : Exit → Act → World → Prop} (hgd : o.guard = none) (s x : Operand) (t : TypeId)
    (ho : o.op = .call { callee := .builtin .append, args := #[s, x], argTypes := #[t, t] })
    (e : TypeId) (z : Value) (size bytes m : Nat) (ht : P.underlying t = some (.slice e)) (hinfo : (P.info? e).map (fun i => (i.zero, i.size, i.bytes)) = some (some z, size, bytes))
    (hzs : z.cells.size = size) (hsz : 0 < size)
    (v : Value) (n : Nat) (xs : List Value) (hout : Out w0 W e size v n xs) (hs : a.eval s = v)
    (v2 : Value) (ys : List Value) (hsrc : Sl W v2 m size ys) (hx : a.eval x = v2) (h1 : ∀ u ∈ ys, u.oneCell' = true)
    (h63 : (n + m) * bytes ≤ 140737488355328) (h64 : n + m ≤ 140737488355328)
    (h : ∀ v' w', Out w0 w' e size v' (n + m) (xs ++ ys) → W.grownBy w' v.ownBlock → wpList P ops Q rest (a.put o.dst v') w') : wpList P ops Q (o :: rest) a W := by
  obtain ⟨i, hi, hz, hsize, hby⟩ := info_parts hinfo
  have hv : ∀ k, v.ownBlock = some k → w0.heap.size ≤ k := fun k hk => (hout.own.lt k hk).1
  obtain ⟨hl, ao, c, rfl, _, hcells⟩ := hsrc
  cases ao with
  | none =>
    have hys : ys = [] := by
      rcases hcells with h | ⟨b, off, hh, _⟩
      · exact h
      · cases hh
    subst hys
    have hm : m = 0 := by
      rcases Nat.eq_zero_or_pos m with h | h
      · exact h
      · have := Nat.mul_pos h hsz; simp at hl; omega
    subst hm
    refine wpList_plain hgd fun K hK' => ?_
    have hrun := run_append_none' (P := P) (w := W) w0.heap.size t o.type e i size c ht hi v n xs hout.own
    unfold Oper.wp
    simp [execOp, ho, resolve, invoke, builtin, hs, hx, hrun, Result.andThen]
    exact hK' _ _ (by simpa using h v W (by simpa using hout) (World.grownBy.refl _ _))
  | some ad =>
    refine wpList_append_own _ hgd s x t ho w0.heap.size e i z size bytes ht hi hz hsize hby hzs hsz v n xs hs hout.own ad m c ys hx hl ?_ h1 (by unfold maxLen; omega) h63 hout.below.size ?_
    · intro j u hu
      rcases hcells with h | ⟨b, off, hh, hc⟩
      · subst h; simp at hu
      · obtain rfl := Option.some.inj hh
        rw [Addr.add_lit]
        exact hc j u hu
    · intro v' w' h1 h2 _
      exact h v' w' ⟨h1, hout.below.grown h2 hout.below.size hv⟩ h2

theorem Out.lit (w : World) (arr : Array Value) (e : TypeId) (n size : Nat) (h : arr.size = n * size) (hm : n ≤ maxLen) : Out w (w.alloc (.cells arr e)) e size (.slice (some ⟨w.heap.size, 0, none⟩) n n) n arr.toList :=
  ⟨World.ownsRow_lit w arr n (Nat.le_refl _) hm h, (Below.refl _ _).alloc (Nat.le_refl _) _⟩

theorem Out.made (w : World) (e : TypeId) (size : Nat) : Out w (w.alloc (.cells #[] e)) e size (.slice (some ⟨w.heap.size, 0, none⟩) 0 0) 0 [] :=
  ⟨World.ownsRow_made w #[] 0 (Nat.le_refl _) (Nat.zero_le _) (by simp), (Below.refl _ _).alloc (Nat.le_refl _) _⟩

theorem Sl.cap {w : World} {a : Option Addr} {m n c size : Nat} {xs : List Value} (h : Sl w (.slice a m c) n size xs) : m = n ∧ n ≤ c := by
  obtain ⟨_, a', c', he, h, _⟩ := h
  simp only [Value.slice.injEq] at he
  obtain ⟨_, rfl, rfl⟩ := he
  exact ⟨rfl, h⟩

/-- 's[l:h]' -/
theorem Sl.cut {w : World} {a : Option Addr} {n c size : Nat} {xs : List Value} (h : Sl w (.slice a n c) n size xs) (l k : Nat) (hl : l ≤ k) (hk : k ≤ n) :
    Sl w (.slice (if c = l then a else a.map (·.add (l * size))) (k - l) (c - l)) (k - l) size ((xs.take (k * size)).drop (l * size)) := by
  obtain ⟨hx, a', c', he, hc, h⟩ := h
  simp only [Value.slice.injEq] at he
  obtain ⟨rfl, _, rfl⟩ := he
  have hkn : k * size ≤ n * size := Nat.mul_le_mul_right _ hk
  refine ⟨by rw [List.length_drop, List.length_take, hx, Nat.min_eq_left hkn, Nat.sub_mul], _, _, rfl, by omega, ?_⟩
  rcases h with h | ⟨b, off, rfl, h⟩
  · exact .inl (by simp [h])
  · by_cases hcl : c = l
    · refine .inl ?_
      have : k * size ≤ l * size := Nat.mul_le_mul_right _ (by omega)
      exact List.drop_eq_nil_of_le (by rw [List.length_take]; omega)
    · refine .inr ⟨b, off + l * size, by rw [if_neg hcl, Option.map_some, Addr.add_lit], fun j u hu => ?_⟩
      rw [Nat.add_assoc]
      refine h (l * size + j) u ?_
      rw [List.getElem?_drop, List.getElem?_take] at hu
      split at hu
      · exact hu
      · cases hu
theorem Sl.drop {w : World} {a : Option Addr} {n c size : Nat} {xs : List Value} (h : Sl w (.slice a n c) n size xs) (l : Nat) (hl : l ≤ n) :
    Sl w (.slice (if c = l then a else a.map (·.add (l * size))) (n - l) (c - l)) (n - l) size (xs.drop (l * size)) := by
  have hx := h.1
  have := h.cut l n hl (Nat.le_refl _)
  rwa [← hx, List.take_length] at this
theorem Sl.take {w : World} {a : Option Addr} {n c size : Nat} {xs : List Value} (h : Sl w (.slice a n c) n size xs) (k : Nat) (hk : k ≤ n) :
    Sl w (.slice a k c) k size (xs.take (k * size)) := by
  have := h.cut 0 k (Nat.zero_le _) hk
  simp only [Nat.zero_mul, List.drop_zero, Nat.sub_zero] at this
  obtain ⟨hx, a', c', he, hc, h⟩ := h
  simp only [Value.slice.injEq] at he
  obtain ⟨rfl, _, rfl⟩ := he
  refine ⟨this.1, a, c, rfl, by omega, ?_⟩
  rcases h with h | ⟨b, off, rfl, h⟩
  · exact .inl (by simp [h])
  · refine .inr ⟨b, off, rfl, fun j u hu => h j u ?_⟩
    rw [List.getElem?_take] at hu
    split at hu
    · exact hu
    · cases hu

end Go.Proofs.YtloeaihbnnnncaaGreatDoor.lib
