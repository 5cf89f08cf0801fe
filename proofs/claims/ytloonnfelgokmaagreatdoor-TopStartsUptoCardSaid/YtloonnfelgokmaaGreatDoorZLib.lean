/- Small words and laws for the walks of this seat: a slice value that reads as a list of cells, a slice of the call's own that grows. No condition. -/
import Derived.WalkKit
import Derived.WalkSpells
import Derived.WalkLawsBesides
import Derived.Handy
import Derived.Deep.RegionLaw
set_option maxRecDepth 100000
set_option maxHeartbeats 16000000
set_option linter.unusedSimpArgs false
set_option linter.unusedVariables false
namespace Go.Proofs.YtloonnfelgokmaaGreatDoor
theorem zg1.{u} {α : Type u} {xs : List α} {i : Nat} (h : i < xs.toArray.size) : xs.toArray[i] = xs[i]'(by simpa using h) := List.getElem_toArray h
theorem zg2.{u} {α : Type u} {a : α} {l : List α} {h : 0 < (a :: l).length} : (a :: l)[0] = a := List.getElem_cons_zero _ _ _
theorem zg3.{u} {α : Type u} {a : α} {l : List α} {i : Nat} {h : i + 1 < (a :: l).length} : (a :: l)[i + 1] = l[i]'(Nat.lt_of_succ_lt_succ h) := List.getElem_cons_succ _ _ _ _
theorem zg4.{u} {α : Type u} {xs : List α} {i : Nat} {a : α} : xs.toArray.setIfInBounds i a = (xs.set i a).toArray := List.setIfInBounds_toArray xs i a
theorem zg5.{u} {α : Type u} {a b : α} {l : List α} : (a :: l).set 0 b = b :: l := List.set_cons_zero
theorem zg6.{u} {α : Type u} {a b : α} {l : List α} {i : Nat} : (a :: l).set (i + 1) b = a :: l.set i b := List.set_cons_succ
theorem zh.{u} {α : Type u} {l : Array α} {i : Nat} {b : α} (h : l[i]? = some b) : ∃ h : i < l.size, l[i] = b := Array.getElem?_eq_some_iff.1 h
end Go.Proofs.YtloonnfelgokmaaGreatDoor
namespace Go.Proofs.YtloonnfelgokmaaGreatDoor.lib
open Go.RowKit
theorem hid {p : Prop} (h : p) : Hid p := h
def Sl (w : World) (v : Value) (n size : Nat) (xs : List Value) : Prop :=
 xs.length = n * size ∧ ∃ a c, v = .slice a n c ∧ n ≤ c ∧ (xs = [] ∨ ∃ b off, a = some ⟨b, off, none⟩ ∧ ∀ j u, xs[j]? = some u → w.cell? ⟨b, off + j, none⟩ = some u)
theorem Sl.below {w w' : World} {v : Value} {n size : Nat} {xs : List Value} (h : Sl w v n size xs) (hb : Below w.heap.size w w') : Sl w' v n size xs := by
 obtain ⟨hl, a, c, rfl, hcap, h⟩ := h
 refine ⟨hl, a, c, rfl, hcap, ?_⟩
 rcases h with h | ⟨b, off, rfl, h⟩
 ·exact .inl h
 ·refine .inr ⟨b, off, rfl, fun j u hu => ?_⟩
  have hc := h j u hu
  rw [hb.cell (p := ⟨b, off + j, none⟩) (World.block_lt_of_cell? w _ hc)]
  exact hc
theorem Sl.at1 {w : World} {a : Option Addr} {n c : Nat} {xs : List Value} (h : Sl w (.slice a n c) n 1 xs) {k : Nat} (hk : k < n) :
  ∃ b off, a = some ⟨b, off, none⟩ ∧ ∃ u, xs[k]? = some u ∧ w.cell? ⟨b, off + k, none⟩ = some u := by
 obtain ⟨hl, a', c', he, _, h⟩ := h
 simp only [Value.slice.injEq] at he
 obtain ⟨rfl, _, _⟩ := he
 have hk' : k < xs.length := by omega
 rcases h with h | ⟨b, off, rfl, h⟩
 ·subst h; simp at hk'
 ·exact ⟨b, off, rfl, xs[k], List.getElem?_eq_getElem hk', h k _ (List.getElem?_eq_getElem hk')⟩
theorem Sl.ints {w : World} {a : Option Addr} {n c : Nat} {K : IntKind} {zs : List Int} (h : Sl w (.slice a n c) n 1 (zs.map (.int K))) {k : Nat} (hk : k < zs.length) :
  ∃ b off, a = some ⟨b, off, none⟩ ∧ w.cell? ⟨b, off + k, none⟩ = some (.int K zs[k]) := by
 have hn : n = zs.length := by have := h.1; simp at this; exact this.symm
 obtain ⟨b, off, rfl, u, hu, hc⟩ := h.at1 (k := k) (by omega)
 refine ⟨b, off, rfl, ?_⟩
 rw [List.getElem?_map, List.getElem?_eq_getElem hk] at hu
 simp at hu
 rw [hc, hu]
theorem sl_of_owns {w : World} {base : Nat} {e : TypeId} {size : Nat} {v : Value} {n : Nat} {xs : List Value} (h : w.ownsRow base e size v n xs) : Sl w v n size xs := by
 refine ⟨h.1, ?_⟩
 have hl := h.1
 have hc := @World.ownsRow.cells w base e size v n xs h
 rcases h.2 with ⟨rfl, rfl⟩ | ⟨g, cap, cur, rfl, _, _, hcap, _⟩
 ·exact ⟨none, 0, rfl, Nat.le_refl _, .inl (List.eq_nil_of_length_eq_zero (by simpa using hl))⟩
 ·refine ⟨_, _, rfl, hcap, .inr ⟨g, 0, rfl, fun j u hu => ?_⟩⟩
  have := hc (g := g) rfl j u hu
  rw [Addr.add_lit] at this
  exact this
structure Out (w0 w : World) (e : TypeId) (size : Nat) (v : Value) (n : Nat) (xs : List Value) : Prop where
 own : w.ownsRow w0.heap.size e size v n xs
 below : Below w0.heap.size w0 w
theorem Out.sl {w0 w : World} {e : TypeId} {size : Nat} {v : Value} {n : Nat} {xs : List Value} (h : Out w0 w e size v n xs) : Sl w v n size xs := sl_of_owns h.own
theorem Out.nil (w : World) (e : TypeId) (size : Nat) : Out w w e size (.slice none 0 0) 0 [] := ⟨World.ownsRow_nil _ _ _ _, Below.refl _ _⟩
theorem Out.alloc {w0 w : World} {e : TypeId} {size : Nat} {v : Value} {n : Nat} {xs : List Value} (h : Out w0 w e size v n xs) (o : Obj) : Out w0 (w.alloc o) e size v n xs :=
 ⟨h.own.alloc o, h.below.alloc h.below.size o⟩
theorem Out.drew {w0 w : World} {e : TypeId} {size : Nat} {v : Value} {n : Nat} {xs : List Value} (h : Out w0 w e size v n xs) : Out w0 w.drew e size v n xs :=
 ⟨h.own.drew, h.below.drew⟩
theorem Out.later {w0 w w' : World} {e : TypeId} {size : Nat} {v : Value} {n : Nat} {xs : List Value} (h : Out w0 w e size v n xs) (hb : Below w.heap.size w w') : Out w0 w' e size v n xs := by
 refine ⟨h.own.kept (row := none) ⟨hb.os, hb.tape, hb.output, hb.size, fun k hk _ => hb.block k hk⟩ (by cases hv : v.ownBlock <;> simp), h.below.trans (hb.mono h.below.size)⟩
theorem wpList_append_lit {P : Program} (w0 W : World) (arr : Array Value) {ops : Array Oper} {rest : List Oper} {o : Oper} {a : Act} {Q : Exit → Act → World → Prop} (hgd : o.guard = none) (s x : Operand) (t : TypeId)
  (ho : o.op = .call { callee := .builtin .append, args := #[s, x], argTypes := #[t, t] })
  (e : TypeId) (z : Value) (size bytes m : Nat) (ht : P.underlying t = some (.slice e)) (hinfo : (P.info? e).map (fun i => (i.zero, i.size, i.bytes)) = some (some z, size, bytes))
  (hzs : z.cells.size = size) (hsz : 0 < size)
  (v : Value) (n : Nat) (xs : List Value) (hout : Out w0 W e size v n xs) (hs : a.eval s = v)
  (hx : a.eval x = .slice (some ⟨W.heap.size, 0, none⟩) m m) (hl : arr.size = m * size) (h1 : ∀ u ∈ arr.toList, u.oneCell' = true)
  (h63 : (n + m) * bytes ≤ 140737488355328) (h64 : n + m ≤ 140737488355328)
  (h : ∀ v' w', Out w0 w' e size v' (n + m) (xs ++ arr.toList) → W.grownBy w' v.ownBlock → wpList P ops Q rest (a.put o.dst v') w') : wpList P ops Q (o :: rest) a (W.alloc (.cells arr e)) := by
 obtain ⟨i, hi, hz, hsize, hby⟩ := info_parts hinfo
 have ho1 := hout.alloc (.cells arr e)
 refine wpList_append_own _ hgd s x t ho w0.heap.size e i z size bytes ht hi hz hsize hby hzs hsz v n xs hs ho1.own ⟨W.heap.size, 0, none⟩ m m arr.toList hx (by simpa using hl) ?_ h1 (by unfold maxLen; omega) h63 ho1.below.size ?_
 ·intro j u hu
  rw [Addr.add_lit, World.cell?_alloc_at _ _ _ _ rfl]
  simpa using hu
 ·intro v' w' h1 h2 _
  have hv : ∀ k, v.ownBlock = some k → w0.heap.size ≤ k := fun k hk => (hout.own.lt k hk).1
  have hv2 : ∀ k, v.ownBlock = some k → k < W.heap.size := fun k hk => (hout.own.lt k hk).2
  refine h v' w' ⟨h1, ho1.below.grown h2 ho1.below.size hv⟩ ⟨h2.os, h2.tape, h2.output, Nat.le_trans (by simp) h2.size, fun k hk hne => ?_⟩
  rw [h2.block k (by simp; omega) hne]
  exact Below.heap_alloc _ _ _ hk
theorem str_eq_of {a b : ByteArray} (h : (a.toList == b.toList) = true) : a = b := by
 rw [ByteArray.toList_eq, ByteArray.toList_eq] at h
 exact ByteArray.ext (Array.toList_inj.1 (by simpa using h))
theorem str_eqb {a b : ByteArray} (h : a = b) : (a.toList == b.toList) = true := by subst h; simp
theorem str_neb {a b : ByteArray} (h : a ≠ b) : (a.toList == b.toList) = false := by
 cases hb : a.toList == b.toList with
 | false => rfl
 | true => exact absurd (str_eq_of hb) h
theorem Sl.lit (w : World) (arr : Array Value) (e : TypeId) (n size : Nat) (h : arr.size = n * size) : Sl (w.alloc (.cells arr e)) (.slice (some ⟨w.heap.size, 0, none⟩) n n) n size arr.toList :=
 ⟨by simpa using h, _, _, rfl, Nat.le_refl _, .inr ⟨_, _, rfl, fun j u hu => by rw [Nat.zero_add, World.cell?_alloc_at _ _ _ _ rfl]; simpa using hu⟩⟩
theorem Sl.val {w : World} {v : Value} {n size : Nat} {xs : List Value} (h : Sl w v n size xs) : ∃ a c, v = .slice a n c := by
 obtain ⟨_, a, c, rfl, _, _⟩ := h; exact ⟨a, c, rfl⟩
theorem ext_alloc (w : World) (o : Obj) : Below w.heap.size w (w.alloc o) := (Below.refl _ _).alloc (Nat.le_refl _) o
theorem Sl.grownBy {w w' : World} {v : Value} {n size : Nat} {xs : List Value} {row : Option Nat} (h : Sl w v n size xs) (hg : w.grownBy w' row) (hne : ∀ k, v.ownBlock = some k → k < w.heap.size → some k ≠ row) : Sl w' v n size xs := by
 obtain ⟨hl, a, c, rfl, hcap, h⟩ := h
 refine ⟨hl, a, c, rfl, hcap, ?_⟩
 rcases h with h | ⟨b, off, rfl, h⟩
 ·exact .inl h
 ·exact .inr ⟨b, off, rfl, fun j u hu => hg.cell (h j u hu) (hne b rfl (World.block_lt_of_cell? w _ (h j u hu)))⟩
theorem run_append_none' {P : Program} {w : World} (base : Nat) (t ty e : TypeId) (i : TypeInfo) (size c : Nat) (ht : P.underlying t = some (.slice e)) (hi : P.info? e = some i)
  (v : Value) (n : Nat) (xs : List Value) (hown : w.ownsRow base e size v n xs) :
  (Builtin.append_ #[t, t] ty #[v, .slice none 0 c]).run P w = .ok v w := by
 rcases hown.2 with ⟨rfl, rfl⟩ | ⟨g, cap, cur, rfl, _, _, hnc, _⟩
 ·simp [Builtin.append_, run_underlying ht, sizeOf, typeInfo, hi, Builtin.lenOf, Builtin.firstCells]
 ·simp [Builtin.append_, run_underlying ht, sizeOf, typeInfo, hi, Builtin.lenOf, Builtin.firstCells, hnc, storeCells]
theorem Sl.cap {w : World} {a : Option Addr} {m n c size : Nat} {xs : List Value} (h : Sl w (.slice a m c) n size xs) : m = n ∧ n ≤ c := by
 obtain ⟨_, a', c', he, h, _⟩ := h
 simp only [Value.slice.injEq] at he
 obtain ⟨_, rfl, rfl⟩ := he
 exact ⟨rfl, h⟩
theorem Sl.cut {w : World} {a : Option Addr} {n c size : Nat} {xs : List Value} (h : Sl w (.slice a n c) n size xs) (l k : Nat) (hl : l ≤ k) (hk : k ≤ n) :
  Sl w (.slice (if c = l then a else a.map (·.add (l * size))) (k - l) (c - l)) (k - l) size ((xs.take (k * size)).drop (l * size)) := by
 obtain ⟨hx, a', c', he, hc, h⟩ := h
 simp only [Value.slice.injEq] at he
 obtain ⟨rfl, _, rfl⟩ := he
 have hkn : k * size ≤ n * size := Nat.mul_le_mul_right _ hk
 refine ⟨by rw [List.length_drop, List.length_take, hx, Nat.min_eq_left hkn, Nat.sub_mul], _, _, rfl, by omega, ?_⟩
 rcases h with h | ⟨b, off, rfl, h⟩
 ·exact .inl (by simp [h])
 ·by_cases hcl : c = l
  ·refine .inl ?_
   have : k * size ≤ l * size := Nat.mul_le_mul_right _ (by omega)
   exact List.drop_eq_nil_of_le (by rw [List.length_take]; omega)
  ·refine .inr ⟨b, off + l * size, by rw [if_neg hcl, Option.map_some, Addr.add_lit], fun j u hu => ?_⟩
   rw [Nat.add_assoc]
   refine h (l * size + j) u ?_
   rw [List.getElem?_drop, List.getElem?_take] at hu
   split at hu
   ·exact hu
   ·cases hu
theorem Sl.take {w : World} {a : Option Addr} {n c size : Nat} {xs : List Value} (h : Sl w (.slice a n c) n size xs) (k : Nat) (hk : k ≤ n) :
  Sl w (.slice a k c) k size (xs.take (k * size)) := by
 have := h.cut 0 k (Nat.zero_le _) hk
 simp only [Nat.zero_mul, List.drop_zero, Nat.sub_zero] at this
 obtain ⟨hx, a', c', he, hc, h⟩ := h
 simp only [Value.slice.injEq] at he
 obtain ⟨rfl, _, rfl⟩ := he
 refine ⟨this.1, a, c, rfl, by omega, ?_⟩
 rcases h with h | ⟨b, off, rfl, h⟩
 ·exact .inl (by simp [h])
 ·refine .inr ⟨b, off, rfl, fun j u hu => h j u ?_⟩
  rw [List.getElem?_take] at hu
  split at hu
  ·exact hu
  ·cases hu
end Go.Proofs.YtloonnfelgokmaaGreatDoor.lib
