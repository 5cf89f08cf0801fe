/- Locks in memory: the program's, two maps and a block for each thing that is held; which blocks are whose. No condition. -/
import Derived.Test.YtmfhmikihnjkcaaDoorLock1
import Derived.Test.YtmfhmikihnjkcaaDoorOff
import Derived.Test.YtmfhmikihnjkcaaDoorErrV
import Derived.Test.YtmfhmikihnjkcaaDoorOwn
namespace Go.Proofs.YtmfhmikihnjkcaaDoor.locks
open Go.RowKit Go.Proofs.YtmfhmikihnjkcaaDoor.lib Go.Proofs.YtmfhmikihnjkcaaDoor.maps Go.Proofs.YtmfhmikihnjkcaaDoor.errs

/-- all but the blocks of F is as it was -/
structure Keeps (F : Nat → Prop) (w w' : World) : Prop where
  os : w'.os = w.os
  tape : w'.tape = w.tape
  output : w'.output = w.output
  size : w.heap.size ≤ w'.heap.size
  block : ∀ k, k < w.heap.size → ¬ F k → w'.heap[k]? = w.heap[k]?
theorem Keeps.refl (F : Nat → Prop) (w : World) : Keeps F w w := ⟨rfl, rfl, rfl, Nat.le_refl _, fun _ _ _ => rfl⟩
theorem Keeps.trans {F : Nat → Prop} {w w1 w2 : World} (h1 : Keeps F w w1) (h2 : Keeps F w1 w2) : Keeps F w w2 :=
  ⟨h2.os.trans h1.os, h2.tape.trans h1.tape, h2.output.trans h1.output, Nat.le_trans h1.size h2.size, fun k hk hF => (h2.block k (Nat.lt_of_lt_of_le hk h1.size) hF).trans (h1.block k hk hF)⟩
theorem Keeps.mono {F G : Nat → Prop} {w w' : World} (h : Keeps F w w') (hFG : ∀ k, k < w.heap.size → F k → G k) : Keeps G w w' := ⟨h.os, h.tape, h.output, h.size, fun k hk hG => h.block k hk fun hF => hG (hFG k hk hF)⟩
theorem Keeps.grown {w w' : World} {b : Option Nat} (h : w.grownBy w' b) : Keeps (fun k => some k = b) w w' := ⟨h.os, h.tape, h.output, h.size, h.block⟩
theorem Keeps.alloc (F : Nat → Prop) (w : World) (o : Obj) : Keeps F w (w.alloc o) := ⟨rfl, rfl, rfl, by simp, fun k hk _ => Below.heap_alloc w o k hk⟩
theorem Keeps.drew (F : Nat → Prop) (w : World) : Keeps F w w.drew := ⟨rfl, rfl, rfl, Nat.le_refl _, fun _ _ _ => rfl⟩
theorem Keeps.set (w : World) (b i : Nat) (v : Value) : Keeps (fun k => k = b) w (w.setCell ⟨b, i, none⟩ v) := (Keeps.grown (lib.grown_set w ⟨b, i, none⟩ v)).mono fun _ _ h => Option.some.inj h
theorem Keeps.of_below {F : Nat → Prop} {w w' : World} (h : Below w.heap.size w w') : Keeps F w w' := ⟨h.os, h.tape, h.output, h.size, fun k hk _ => h.block k hk⟩
theorem Keeps.below {F : Nat → Prop} {w0 w w' : World} (h0 : Below w0.heap.size w0 w) (h : Keeps F w w') (hF : ∀ k, F k → w0.heap.size ≤ k) : Below w0.heap.size w0 w' :=
  ⟨h.os.trans h0.os, h.tape.trans h0.tape, h.output.trans h0.output, Nat.le_trans h0.size h.size, fun k hk => (h.block k (Nat.lt_of_lt_of_le hk h0.size) fun hf => by have := hF k hf; omega).trans (h0.block k hk)⟩

theorem heap_set {w : World} {b : Nat} {cs : Array Value} {t : TypeId} {fr : Nat × Nat} (h : w.heap[b]? = some (.cells cs t fr)) (i : Nat) (v : Value) : (w.setCell ⟨b, i, none⟩ v).heap[b]? = some (.cells (cs.setIfInBounds i v) t fr) := by
  simp [World.setCell, Array.getElem?_modify, h]
theorem cell_of {w : World} {b : Nat} {cs : Array Value} {t : TypeId} {fr : Nat × Nat} (h : w.heap[b]? = some (.cells cs t fr)) (i : Nat) : w.cell? ⟨b, i, none⟩ = cs[i]? := by simp [World.cell?, h]
theorem frozen_of {w : World} {b : Nat} {cs : Array Value} {t : TypeId} (h : w.heap[b]? = some (.cells cs t (0, 0))) (i : Nat) : w.frozen? ⟨b, i, none⟩ = false := by simp [World.frozen?, h]

/-- which blocks are the locks', and for what -/
structure Gh where
  own : Nat → Option (Nat × Int)
  bA : Nat
  bW : Nat
  LA : List (Int × Nat)
  LW : List (Int × Int)
def ptrs (l : List (Int × Nat)) : List (Int × Value) := l.map fun q => (q.1, .pointer (some ⟨q.2, 0, none⟩))
def ints (l : List (Int × Int)) : List (Int × Value) := l.map fun q => (q.1, .int .i64 q.2)
theorem get_ptrs (l : List (Int × Nat)) (k : Int) : getK (ptrs l) k = (getK l k).map fun b => .pointer (some ⟨b, 0, none⟩) := getK_map (fun b : Nat => Value.pointer (some ⟨b, 0, none⟩)) l k
theorem get_ints (l : List (Int × Int)) (k : Int) : getK (ints l) k = (getK l k).map (.int .i64) := getK_map (Value.int .i64) l k
def iv (l : List Int) : List Value := l.map (.int .i64)

/-- a lock's block -/
structure Lk (w : World) (m : Gh) (A : St) (k : Int) (b : Nat) (v : Value) : Prop where
  own : m.own b = some (3, k)
  pos : 0 < A.times k
  heap : w.heap[b]? = some (.cells #[.int .i64 (A.who k), .int .i64 (A.times k), v] 42 (0, 0))
  row : OffOwn w 3 v (iv (waiting A k))
  rown : ∀ g, v.ownBlock = some g → m.own g = some (4, k)
/-- the program's locks lie in block p -/
structure PL (w : World) (base : Nat) (p : Nat) (m : Gh) (A : St) : Prop where
  lim : ∀ k t, m.own k = some t → base ≤ k ∧ k < w.heap.size
  topo : m.own p = some (0, 0)
  top : w.heap[p]? = some (.cells #[.map (some m.bA), .map (some m.bW)] 38 (0, 0))
  mAo : m.own m.bA = some (1, 0)
  mA : MapIs intKey w m.bA (ptrs m.LA)
  mWo : m.own m.bW = some (2, 0)
  mW : MapIs intKey w m.bW (ints m.LW)
  lk : ∀ k b, getK m.LA k = some b → ∃ v, Lk w m A k b v
  no : ∀ k, getK m.LA k = none → A.times k = 0
  wt : ∀ x, getK m.LW x = waitsFor A x
  onceA : Once m.LA
  onceW : Once m.LW

/-- new blocks alone come to be theirs -/
def Grows (w : World) (m m' : Gh) : Prop := ∀ k, m'.own k ≠ none → m.own k ≠ none ∨ w.heap.size ≤ k
theorem Grows.refl (w : World) (m : Gh) : Grows w m m := fun _ h => .inl h
/-- a block for something more -/
def own1 (f : Nat → Option (Nat × Int)) (b : Nat) (t : Nat × Int) : Nat → Option (Nat × Int) := fun k => if k = b then some t else f k
theorem own1_same (f : Nat → Option (Nat × Int)) (b : Nat) (t : Nat × Int) : own1 f b t b = some t := by simp [own1]
theorem own1_other {f : Nat → Option (Nat × Int)} {b k : Nat} {t : Nat × Int} (h : k ≠ b) : own1 f b t k = f k := by simp [own1, h]

theorem Lk.keep {w w' : World} {m : Gh} {A : St} {k : Int} {b : Nat} {v : Value} (h : Lk w m A k b v) (hk : ∀ g, (m.own g = some (3, k) ∨ m.own g = some (4, k)) → w'.heap[g]? = w.heap[g]?) : Lk w' m A k b v :=
  ⟨h.own, h.pos, by rw [hk b (.inl h.own)]; exact h.heap, h.row.keep fun g hg => hk g (.inr (h.rown g hg)), h.rown⟩
/-- what is not theirs turns nothing -/
theorem PL.keep {w w' : World} {base p : Nat} {m : Gh} {A : St} (h : PL w base p m A) (hs : w.heap.size ≤ w'.heap.size) (hk : ∀ g t, m.own g = some t → w'.heap[g]? = w.heap[g]?) : PL w' base p m A :=
  ⟨fun k t ht => ⟨(h.lim k t ht).1, Nat.lt_of_lt_of_le (h.lim k t ht).2 hs⟩, h.topo, by rw [hk p _ h.topo]; exact h.top, h.mAo, map_keep intKey h.mA (hk _ _ h.mAo), h.mWo, map_keep intKey h.mW (hk _ _ h.mWo),
   fun k b hb => by
    obtain ⟨v, hv⟩ := h.lk k b hb
    exact ⟨v, hv.keep fun g hg => hg.elim (hk g _) (hk g _)⟩, h.no, h.wt, h.onceA, h.onceW⟩
theorem PL.keeps {w w' : World} {F : Nat → Prop} {base p : Nat} {m : Gh} {A : St} (h : PL w base p m A) (hk : Keeps F w w') (hF : ∀ g, m.own g ≠ none → ¬ F g) : PL w' base p m A :=
  h.keep hk.size fun g t hg => hk.block g (h.lim g t hg).2 (hF g (by rw [hg]; exact fun e => by cases e))
theorem PL.below {w w' : World} {base p : Nat} {m : Gh} {A : St} (h : PL w base p m A) (hb : Below w.heap.size w w') : PL w' base p m A := h.keep hb.size fun g t hg => hb.block g (h.lim g t hg).2
theorem PL.cells {w : World} {base p : Nat} {m : Gh} {A : St} (h : PL w base p m A) : w.cell? ⟨p, 0, none⟩ = some (.map (some m.bA)) ∧ w.cell? ⟨p, 1, none⟩ = some (.map (some m.bW)) := ⟨by rw [cell_of h.top]; rfl, by rw [cell_of h.top]; rfl⟩
theorem Lk.cells {w : World} {m : Gh} {A : St} {k : Int} {b : Nat} {v : Value} (h : Lk w m A k b v) : w.cell? ⟨b, 0, none⟩ = some (.int .i64 (A.who k)) ∧ w.cell? ⟨b, 1, none⟩ = some (.int .i64 (A.times k)) ∧ w.cell? ⟨b, 2, none⟩ = some v :=
  ⟨by rw [cell_of h.heap]; rfl, by rw [cell_of h.heap]; rfl, by rw [cell_of h.heap]; rfl⟩

/-- 'l.waits[who]' with its word whether it is there -/
theorem look_waits {w : World} {base p : Nat} {m : Gh} {A : St} (h : PL w base p m A) (x : Int) :
    (Instr.lookup 36 (.map (some m.bW)) (.int .i64 x) true).run Tryd.prog w = .ok (.tuple #[.int .i64 ((waitsFor A x).getD 0), .bool (waitsFor A x).isSome]) w := by
  have := run_look_ok (P := Tryd.prog) (E := intKey) Tryd.underlying36 Tryd.underlying3 h.mW x (z := .int .i64 0) (show (zeroValue 3).run Tryd.prog w = _ by kernel_rfl)
  rw [get_ints, h.wt] at this
  refine this.trans ?_
  cases waitsFor A x <;> rfl
/-- 'l.all[what]' -/
theorem look_all {w : World} {base p : Nat} {m : Gh} {A : St} (h : PL w base p m A) (k : Int) :
    (Instr.lookup 35 (.map (some m.bA)) (.int .i64 k) false).run Tryd.prog w = .ok (.pointer ((getK m.LA k).map fun b => ⟨b, 0, none⟩)) w := by
  have := run_look (P := Tryd.prog) (E := intKey) Tryd.underlying35 Tryd.underlying3 h.mA k (z := .pointer none) (show (zeroValue 40).run Tryd.prog w = _ by kernel_rfl)
  rw [get_ptrs] at this
  refine this.trans ?_
  cases getK m.LA k <;> rfl

theorem errVal_ne {e : Int} (h : ¬ e = 0) : errVal e = .iface 34 (.int .i64 e) := by unfold errVal; rw [if_neg h]
theorem errVal_zero {e : Int} (h : e = 0) : errVal e = .nilIface := by unfold errVal; rw [if_pos h]

set_option maxRecDepth 100000 in
set_option maxHeartbeats 2000000 in
theorem wrong_any {w : World} {base p : Nat} {m : Gh} {A : St} (h : PL w base p m A) (x k : Int) :
    Calls Tryd.prog 10 #[.pointer (some ⟨p, 0, none⟩), .int .i64 x, .int .i64 k] w fun e w' => e = .returned (errVal (fault A x k)) ∧ w = w' := by
  have hl := look_waits h x
  obtain ⟨_, hc⟩ := h.cells
  by_cases hr : x < 0 ∨ k < 0 ∨ 50 ≤ x ∨ 50 ≤ k
  · have HE := hid (fault_range (A := A) hr)
    have HE2 := hid (errVal_ne (e := 2) (by decide))
    clear h hl
    by_cases hkx : k < x
    · have hxk : ¬ x < k := by omega
      by_cases hm : k < 0
      · clear hr
        go_enter Tryd.func10, Tryd.ntmps10
        go_wp2
        all_goals go_ret
        all_goals exact ⟨by rw [HE.out, HE2.out]; rfl, rfl⟩
      · have hm2 : 50 ≤ x := by omega
        clear hr
        go_enter Tryd.func10, Tryd.ntmps10
        go_wp2
        all_goals go_ret
        all_goals exact ⟨by rw [HE.out, HE2.out]; rfl, rfl⟩
    · by_cases hxk : x < k
      · by_cases hm : x < 0
        · clear hr
          go_enter Tryd.func10, Tryd.ntmps10
          go_wp2
          all_goals go_ret
          all_goals exact ⟨by rw [HE.out, HE2.out]; rfl, rfl⟩
        · have hm2 : 50 ≤ k := by omega
          clear hr
          go_enter Tryd.func10, Tryd.ntmps10
          go_wp2
          all_goals go_ret
          all_goals exact ⟨by rw [HE.out, HE2.out]; rfl, rfl⟩
      · obtain rfl : x = k := by omega
        by_cases hm : x < 0
        · clear hr
          go_enter Tryd.func10, Tryd.ntmps10
          go_wp2
          all_goals go_ret
          all_goals exact ⟨by rw [HE.out, HE2.out]; rfl, rfl⟩
        · have hm2 : 50 ≤ x := by omega
          clear hr
          go_enter Tryd.func10, Tryd.ntmps10
          go_wp2
          all_goals go_ret
          all_goals exact ⟨by rw [HE.out, HE2.out]; rfl, rfl⟩
  · have h1 : ¬ x < 0 := by omega
    have h2 : ¬ k < 0 := by omega
    have h3 : ¬ 50 ≤ x := by omega
    have h4 : ¬ 50 ≤ k := by omega
    cases hw : waitsFor A x with
    | none =>
      have HE := hid (fault_no hr hw)
      have HE2 := hid (errVal_zero (e := 0) rfl)
      rw [hw] at hl
      simp only [Option.getD_none, Option.isSome_none] at hl
      clear hr h hw
      go_enter Tryd.func10, Tryd.ntmps10
      go_wp2
      all_goals go_ret
      all_goals exact ⟨by rw [HE.out, HE2.out]; rfl, rfl⟩
    | some y =>
      have HE := hid (fault_twice hr hw)
      have HE2 := hid (errVal_ne (e := 5) (by decide))
      rw [hw] at hl
      simp only [Option.getD_some, Option.isSome_some] at hl
      clear hr h hw
      go_enter Tryd.func10, Tryd.ntmps10
      go_wp2
      all_goals go_ret
      all_goals exact ⟨by rw [HE.out, HE2.out]; rfl, rfl⟩
end Go.Proofs.YtmfhmikihnjkcaaDoor.locks
