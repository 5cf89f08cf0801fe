/- A region that draws its order, reads what was there, makes two blocks and lays a struct into each: what reads is taken first. Conditions: each operation's own outcome; which may come up is asked of the kernel. -/
import Derived.Test.YtmbcjcicieiolaaDoorOne
import Derived.Laws.CopyOwn
import Derived.Deep.WholeRow
namespace Go.Proofs.YtmbcjcicieiolaaDoor.grow
open Go.RowKit

section
variable {P : Program} {ops : Array Oper} {md : Region.Mode}

def wOp (P : Program) (ops : Array Oper) (J : World → Prop) (i : Nat) (K : Act → World → Prop) (a : Act) (w : World) : Prop :=
  match ops[i]? with
  | none => K a w
  | some o => (Region.wanted o (yielded ops a.tmps) = true ∧ growUpon P (fun u w' => J w' ∧ K (a.put o.dst u) w') ((execOp a.eval o).run P w)) ∨ (Region.wanted o (yielded ops a.tmps) = false ∧ K (a.put o.dst undef) w)

/-- Whatever order is picked from here on; nothing dies, and every world on the way is of the kind J. -/
def wpAnyW (P : Program) (md : Region.Mode) (ops : Array Oper) (J : World → Prop) (Q : Act → World → Prop) : Nat → Array Bool → Act → World → Prop
  | 0, listed, a, w => Region.ready md ops listed = [] ∧ Q a w
  | fuel + 1, listed, a, w => (Region.ready md ops listed = [] → Q a w) ∧ ∀ i ∈ Region.ready md ops listed, wOp P ops J i (wpAnyW P md ops J Q fuel (listed.setIfInBounds i true)) a w

theorem wpAnyU_of_W {J : World → Prop} {Q : Act → World → Prop} : ∀ (fuel : Nat) (listed : Array Bool) (a : Act) (w : World), wpAnyW P md ops J Q fuel listed a w → wpAnyU P md ops Q fuel listed a w
  | 0, _, _, _, h => h
  | fuel + 1, listed, a, w, h => ⟨h.1, fun i hi => by
      have h2 := h.2 i hi
      unfold wOp at h2
      unfold uOp
      split
      · rename_i ho; simp only [ho] at h2; exact wpAnyU_of_W fuel _ _ _ h2
      · rename_i o ho
        simp only [ho] at h2
        rcases h2 with ⟨hw, h2⟩ | ⟨hw, h2⟩
        · exact .inl ⟨hw, growUpon_mono (fun u w' h3 => wpAnyU_of_W fuel _ _ _ h3.2) h2⟩
        · exact .inr ⟨hw, wpAnyU_of_W fuel _ _ _ h2⟩⟩

theorem wOp_put {J : World → Prop} {j : Nat} {oi oj : Oper} {v : Value} (hj : ops[j]? = some oj) (hap : oi.apart ops oj = true) (hsj : ∀ cs b, oj.op ≠ .select cs b) {K : Act → World → Prop} {a : Act} {w : World}
    (h : wOp P ops J j K (a.put oi.dst v) w) : wOp P ops J j (fun a' w' => K (a'.put oi.dst v) w') a w := by
  obtain ⟨q1, q2, q3⟩ := Oper.apart_spec hap
  unfold wOp at *
  simp only [hj] at h ⊢
  rw [execOp_put oj hsj a oi.dst v q1, wanted_put oj a oi.dst v q1] at h
  rcases h with ⟨hw, h⟩ | ⟨hw, h⟩
  · exact .inl ⟨hw, growUpon_mono (fun u w' h3 => ⟨h3.1, by rw [← Act.put_comm a v u q2]; exact h3.2⟩) h⟩
  · exact .inr ⟨hw, by rw [← Act.put_comm a v undef q2]; exact h⟩

/-- the operation gives this value in every world of the kind J -/
def CalcJ (P : Program) (ops : Array Oper) (J : World → Prop) (o : Oper) (a : Act) (v : Value) : Prop := Region.wanted o (yielded ops a.tmps) = true ∧ ∀ w, J w → (execOp a.eval o).run P w = .ok (.value v) w

theorem calcJ_put {J : World → Prop} {oi oj : Oper} {a : Act} {v u : Value} (hap : ∀ d, oj.dst = some d → d ∉ oi.looksAt ops) (hsi : ∀ cs b, oi.op ≠ .select cs b) (h : CalcJ P ops J oi a v) : CalcJ P ops J oi (a.put oj.dst u) v := by
  unfold CalcJ at *
  rw [execOp_put oi hsi a oj.dst u hap, wanted_put oi a oj.dst u hap]
  exact h
theorem calcJ_run {J : World → Prop} {i : Nat} {oi : Oper} {v : Value} {a : Act} {w : World} (hJ : J w) (hi : ops[i]? = some oi) (h : CalcJ P ops J oi a v) {K : Act → World → Prop} (hK : K (a.put oi.dst v) w) : wOp P ops J i K a w := by
  unfold wOp
  simp only [hi]
  exact .inl ⟨h.1, by rw [h.2 w hJ]; exact ⟨hJ, hK⟩⟩

theorem wpAnyW_first {J : World → Prop} {Q : Act → World → Prop} {i : Nat} {oi : Oper} {v : Value} (hi : ops[i]? = some oi) (hsel : ∀ (j : Nat) (o : Oper) cs b, ops[j]? = some o → o.op ≠ .select cs b) :
    ∀ (fuel : Nat) (listed : Array Bool) (a : Act) (w : World), J w →
      (∀ j oj, ops[j]? = some oj → j ≠ i → listed.getD j true = false → (∀ e ∈ oj.after, Region.binds md e = true → e.on ≠ i) → oi.apart ops oj = true) →
      i ∈ Region.ready md ops listed → CalcJ P ops J oi a v → wpAnyW P md ops J Q fuel (listed.setIfInBounds i true) (a.put oi.dst v) w → wpAnyW P md ops J Q (fuel + 1) listed a w := by
  intro fuel
  induction fuel with
  | zero =>
    intro listed a w hJ _ hr hy H
    refine ⟨fun h => (by rw [h] at hr; cases hr), fun j hj => ?_⟩
    by_cases hji : j = i
    · subst hji; exact calcJ_run hJ hi hy H
    · have := ready_mono hj hji
      rw [H.1] at this
      cases this
  | succ fuel ih =>
    intro listed a w hJ hfree hr hy H
    refine ⟨fun h => (by rw [h] at hr; cases hr), fun j hj => ?_⟩
    by_cases hji : j = i
    · subst hji; exact calcJ_run hJ hi hy H
    · have h1 := H.2 j (ready_mono hj hji)
      obtain ⟨hjun, oj, hoj, hall⟩ := mem_ready.1 hj
      have hnot : ∀ e ∈ oj.after, Region.binds md e = true → e.on ≠ i := fun e he hb heq => by
        have h1 := hall e he hb
        have h0 := (mem_ready.1 hr).1
        rw [heq] at h1
        rcases Nat.lt_or_ge i listed.size with h' | h'
        · simp [h'] at h0 h1; rw [h0] at h1; cases h1
        · simp [Array.getElem?_eq_none h'] at h1
      have hap := hfree j oj hoj hji hjun hnot
      have h2 := wOp_put hoj hap (fun cs b => hsel j oj cs b hoj) h1
      have hfree' : ∀ k ok, ops[k]? = some ok → k ≠ i → (listed.setIfInBounds j true).getD k true = false →
          (∀ e ∈ ok.after, Region.binds md e = true → e.on ≠ i) → oi.apart ops ok = true := fun k ok hk hki hun hno => by
        refine hfree k ok hk hki ?_ hno
        by_cases hjk : j = k
        · subst hjk; exact hjun
        · rw [getD_set_ne true hjk] at hun; exact hun
      unfold wOp at h2 ⊢
      simp only [hoj] at h2 ⊢
      have key : ∀ u w', J w' → wpAnyW P md ops J Q fuel ((listed.setIfInBounds i true).setIfInBounds j true) ((a.put oj.dst u).put oi.dst v) w' → wpAnyW P md ops J Q (fuel + 1) (listed.setIfInBounds j true) (a.put oj.dst u) w' := fun u w' hJ' h3 => by
        refine ih _ _ _ hJ' hfree' (ready_mono hr (Ne.symm hji)) (calcJ_put (Oper.apart_spec hap).2.2 (fun cs b => hsel i oi cs b hi) hy) ?_
        rw [Array.setIfInBounds_comm _ _ hji]
        exact h3
      rcases h2 with ⟨hw, h2⟩ | ⟨hw, h2⟩
      · exact .inl ⟨hw, growUpon_mono (fun u w' h3 => ⟨h3.1, key u w' h3.1 h3.2⟩) h2⟩
      · exact .inr ⟨hw, key _ _ hJ h2⟩

/-! The steps -/
theorem wp_region_two {id : Nat} {Q : Exit → Act → World → Prop} {a : Act} {w : World} {l : List Oper} (hm : P.follows .mixedOrders = true)
    (h : wpAnyW P .any l.toArray (fun u => Below w.drew.heap.size w.drew u) (fun a w => Q .normal a w) l.length (Array.replicate l.length false) a w.drew) : (Code.region id l.toArray true).wp P Q a w :=
  wp_region_one hm (wpAnyU_of_W _ _ _ _ h)

/-- number i only computes, or reads what stays: it is taken first -/
theorem w_read {J : World → Prop} {Q : Act → World → Prop} {n : Nat} {listed : Array Bool} {a : Act} {w : World} (hJ : J w) (i : Nat) (o : Oper) (v : Value) (hi : ops[i]? = some o) (hs : Region.noSelect ops = true) (hf : Region.free .any ops listed i = true) (hr : (Region.ready .any ops listed).contains i = true)
    (hw : Region.wanted o (yielded ops a.tmps) = true) (h : ∀ w, J w → (execOp a.eval o).run P w = .ok (.value v) w) (hn : wpAnyW P .any ops J Q n (listed.setIfInBounds i true) (a.put o.dst v) w) : wpAnyW P .any ops J Q (n + 1) listed a w :=
  wpAnyW_first hi (Region.noSelect_spec hs) n listed a w hJ (Region.free_spec hi hf) (by simpa using hr) ⟨hw, h⟩ hn

theorem w_end {J : World → Prop} {Q : Act → World → Prop} {n : Nat} {listed : Array Bool} {a : Act} {w : World} (hr : Region.ready .any ops listed = []) (h : Q a w) : wpAnyW P .any ops J Q n listed a w := by
  cases n with
  | zero => exact ⟨hr, h⟩
  | succ n => exact ⟨fun _ => h, fun i hi => by rw [hr] at hi; cases hi⟩
theorem w_one {J : World → Prop} {Q : Act → World → Prop} {n : Nat} {listed : Array Bool} {a : Act} {w : World} (i : Nat) (hr : Region.ready .any ops listed = [i])
    (h : wOp P ops J i (wpAnyW P .any ops J Q n (listed.setIfInBounds i true)) a w) : wpAnyW P .any ops J Q (n + 1) listed a w := by
  refine ⟨fun h0 => (by rw [hr] at h0; cases h0), fun j hj => ?_⟩
  rw [hr] at hj
  obtain rfl := List.mem_singleton.1 hj
  exact h
theorem w_pick {J : World → Prop} {Q : Act → World → Prop} {n : Nat} {listed : Array Bool} {a : Act} {w : World} (i j : Nat) (hr : Region.ready .any ops listed = [i, j])
    (h1 : wOp P ops J i (wpAnyW P .any ops J Q n (listed.setIfInBounds i true)) a w) (h2 : wOp P ops J j (wpAnyW P .any ops J Q n (listed.setIfInBounds j true)) a w) : wpAnyW P .any ops J Q (n + 1) listed a w := by
  refine ⟨fun h0 => (by rw [hr] at h0; cases h0), fun k hk => ?_⟩
  rw [hr] at hk
  simp only [List.mem_cons, List.not_mem_nil, or_false] at hk
  rcases hk with rfl | rfl
  · exact h1
  · exact h2

/-- a block is made -/
theorem w_alloc {w0 : World} {i : Nat} {o : Oper} {K : Act → World → Prop} {a : Act} {w : World} (C : Array Value) (t : TypeId) (hi : ops[i]? = some o) (hg : o.guard = none)
    (h : ∀ w, (execOp a.eval o).run P w = .ok (.value (.pointer (some ⟨w.heap.size, 0, none⟩))) (w.alloc (.cells C t))) (hJ : Below w0.heap.size w0 w)
    (hK : Below w0.heap.size w0 (w.alloc (.cells C t)) → K (a.put o.dst (.pointer (some ⟨w.heap.size, 0, none⟩))) (w.alloc (.cells C t))) : wOp P ops (fun u => Below w0.heap.size w0 u) i K a w := by
  unfold wOp
  simp only [hi]
  refine .inl ⟨by unfold Region.wanted; rw [hg], ?_⟩
  rw [h w]
  have := hJ.alloc hJ.size (.cells C t)
  exact ⟨this, hK this⟩
/-- a struct is laid into a block of its own -/
theorem w_store {w0 : World} {i : Nat} {o : Oper} {K : Act → World → Prop} {a : Act} {w : World} (ty : TypeId) (x y : Operand) (hi : ops[i]? = some o) (hg : o.guard = none) (ho : o.op = .store ty x y) (hd : o.dst = none)
    (b : Nat) (cs : Array Value) (hx : a.eval x = .pointer (some ⟨b, 0, none⟩)) (hy : a.eval y = .agg cs) (t : TypeId) (old : Array Value) (hb : w.heap[b]? = some (.cells old t (0, 0))) (hinf : (P.info? ty).map (·.size) = some cs.size)
    (hold : old.size = cs.size) (h1 : cs.all (·.oneCell') = true) (hB : w0.heap.size ≤ b) (hJ : Below w0.heap.size w0 w)
    (hK : Below w0.heap.size w0 (w.setRow b cs) → (w.setRow b cs).heap[b]? = some (.cells cs t) → (∀ k, k ≠ b → (w.setRow b cs).heap[k]? = w.heap[k]?) → K a (w.setRow b cs)) : wOp P ops (fun u => Below w0.heap.size w0 u) i K a w := by
  unfold wOp
  simp only [hi]
  refine .inl ⟨by unfold Region.wanted; rw [hg], ?_⟩
  have hsv := run_storeVar_row (P := P) w b t ty old cs hb hinf hold h1
  unfold execOp
  simp only [ho, hx, hy, Instr.storeAt, Instr.sureAddr, Sem.run_bind, Sem.run_pure, Result.andThen_ok, hsv]
  have hJ' := below_setRow hJ hB cs
  refine ⟨hJ', ?_⟩
  rw [hd]
  exact hK hJ' (setRow_heap w b old cs t (0, 0) hb) (fun k hk => setRow_other w b k cs hk)
def rdy (ops : Array Oper) (L : Array Bool) (is : List Nat) : List Nat := Region.ready .any ops (is.foldl (fun L i => L.setIfInBounds i true) L)
/-- what may come up while two blocks are made (i, j, in whatever order) and then filled (s, then t) -/
def pairOk (ops : Array Oper) (L : Array Bool) (i j s t : Nat) : Bool :=
  rdy ops L [] == [i, j] && (rdy ops L [i] == [j] && (rdy ops L [j] == [i] && (rdy ops L [i, j] == [s] && (rdy ops L [j, i] == [s] && (rdy ops L [i, j, s] == [t] && (rdy ops L [j, i, s] == [t] && (rdy ops L [i, j, s, t] == [] && rdy ops L [j, i, s, t] == [])))))))

/-- TWO BLOCKS ARE MADE AND A STRUCT IS LAID INTO EACH, IN WHATEVER ORDER. -/
theorem w_pair {w0 : World} {Q : Act → World → Prop} {n : Nat} {L : Array Bool} {a : Act} {w : World} (i j s t : Nat) (oi oj os ot : Oper) (ty : TypeId) (C X Y : Array Value) (xi yi xj yj : Operand)
    (hp : pairOk ops L i j s t = true) (hi : ops[i]? = some oi) (hj : ops[j]? = some oj) (hs : ops[s]? = some os) (ht : ops[t]? = some ot)
    (gi : oi.guard = none) (gj : oj.guard = none) (gs : os.guard = none) (gt : ot.guard = none) (ds : os.dst = none) (dt : ot.dst = none) (ps : os.op = .store ty xi yi) (pt : ot.op = .store ty xj yj)
    (hne : ∀ d, oi.dst = some d → oj.dst ≠ some d)
    (ei : ∀ (a : Act) w, (execOp a.eval oi).run P w = .ok (.value (.pointer (some ⟨w.heap.size, 0, none⟩))) (w.alloc (.cells C ty)))
    (ej : ∀ (a : Act) w, (execOp a.eval oj).run P w = .ok (.value (.pointer (some ⟨w.heap.size, 0, none⟩))) (w.alloc (.cells C ty)))
    (x45 : ∀ b c, ((a.put oi.dst (.pointer (some ⟨b, 0, none⟩))).put oj.dst (.pointer (some ⟨c, 0, none⟩))).eval xi = .pointer (some ⟨b, 0, none⟩) ∧ ((a.put oi.dst (.pointer (some ⟨b, 0, none⟩))).put oj.dst (.pointer (some ⟨c, 0, none⟩))).eval xj = .pointer (some ⟨c, 0, none⟩))
    (y45 : ∀ b c, ((a.put oi.dst (.pointer (some ⟨b, 0, none⟩))).put oj.dst (.pointer (some ⟨c, 0, none⟩))).eval yi = .agg X ∧ ((a.put oi.dst (.pointer (some ⟨b, 0, none⟩))).put oj.dst (.pointer (some ⟨c, 0, none⟩))).eval yj = .agg Y)
    (infX : (P.info? ty).map (·.size) = some X.size) (infY : (P.info? ty).map (·.size) = some Y.size) (sX : C.size = X.size) (sY : C.size = Y.size) (oX : X.all (·.oneCell') = true) (oY : Y.all (·.oneCell') = true)
    (hJ : Below w0.heap.size w0 w)
    (hn : ∀ b c w', b ≠ c → w0.heap.size ≤ b → w0.heap.size ≤ c → w'.heap[b]? = some (.cells X ty) → w'.heap[c]? = some (.cells Y ty) → Below w0.heap.size w0 w' →
      Q ((a.put oi.dst (.pointer (some ⟨b, 0, none⟩))).put oj.dst (.pointer (some ⟨c, 0, none⟩))) w') : wpAnyW P .any ops (fun u => Below w0.heap.size w0 u) Q (n + 4) L a w := by
  simp only [pairOk, Bool.and_eq_true, beq_iff_eq, rdy, List.foldl_cons, List.foldl_nil] at hp
  obtain ⟨r0, ri, rj, rij, rji, rijs, rjis, q1, q2⟩ := hp
  have comm := fun b c => Act.put_comm a (x := oi.dst) (y := oj.dst) (.pointer (some ⟨b, 0, none⟩)) (.pointer (some ⟨c, 0, none⟩)) hne
  have hsz := hJ.size
  -- the two stores
  have stores : ∀ (M : Array Bool) (b c : Nat) (v : World), Region.ready .any ops M = [s] → Region.ready .any ops (M.setIfInBounds s true) = [t] →
      Region.ready .any ops ((M.setIfInBounds s true).setIfInBounds t true) = [] → b ≠ c → w0.heap.size ≤ b → w0.heap.size ≤ c →
      v.heap[b]? = some (.cells C ty) → v.heap[c]? = some (.cells C ty) → Below w0.heap.size w0 v →
      wpAnyW P .any ops (fun u => Below w0.heap.size w0 u) Q (n + 2) M ((a.put oi.dst (.pointer (some ⟨b, 0, none⟩))).put oj.dst (.pointer (some ⟨c, 0, none⟩))) v := by
    intro M b c v m1 m2 m4 hbc hb hc rb rc hv
    refine w_one s m1 ?_
    refine w_store ty xi yi hs gs ps ds b X (x45 b c).1 (y45 b c).1 ty C rb infX sX oX hb hv fun J1 k1 k2 => ?_
    refine w_one t m2 ?_
    refine w_store ty xj yj ht gt pt dt c Y (x45 b c).2 (y45 b c).2 ty C ((k2 c (Ne.symm hbc)).trans rc) infY sY oY hc J1 fun J2 k3 k4 => ?_
    exact w_end m4 (hn b c _ hbc hb hc ((k4 b hbc).trans k1) k3 J2)
  refine w_pick i j r0 ?_ ?_
  · refine w_alloc C ty hi gi (ei _) hJ fun J1 => ?_
    have rb := heap_alloc_last w (.cells C ty)
    have s1 : (w.alloc (.cells C ty)).heap.size = w.heap.size + 1 := Array.size_push _
    refine w_one j ri ?_
    refine w_alloc C ty hj gj (ej _) J1 fun J2 => ?_
    refine stores _ _ _ _ rij rijs q1 (by omega) hsz (by omega) ?_ (heap_alloc_last _ _) J2
    exact (Below.heap_alloc _ _ _ (by omega)).trans rb
  · refine w_alloc C ty hj gj (ej _) hJ fun J1 => ?_
    have rb := heap_alloc_last w (.cells C ty)
    have s1 : (w.alloc (.cells C ty)).heap.size = w.heap.size + 1 := Array.size_push _
    refine w_one i rj ?_
    refine w_alloc C ty hi gi (ei _) J1 fun J2 => ?_
    rw [← comm]
    refine stores _ _ _ _ rji rjis q2 (by omega) (by omega) hsz (heap_alloc_last _ _) ?_ J2
    exact (Below.heap_alloc _ _ _ (by omega)).trans rb

/-- a whole struct's load -/
theorem w_flat {J : World → Prop} {Q : Act → World → Prop} {n : Nat} {listed : Array Bool} {a : Act} {w : World} (hJ : J w) (i : Nat) (o : Oper) (cs : Array Value) (hi : ops[i]? = some o) (hs : Region.noSelect ops = true) (hf : Region.free .any ops listed i = true) (hr : (Region.ready .any ops listed).contains i = true)
    (hw : Region.wanted o (yielded ops a.tmps) = true) (ty : TypeId) (x : Operand) (ho : o.op = .load ty x) (b off : Nat) (hx : a.eval x = .pointer (some ⟨b, off, none⟩)) (d : TypeDesc)
    (hu : P.underlying ty = some d) (hd : (match d with | .struct _ | .array _ _ => true | _ => false) = true) (hif : (P.info? ty).map (·.size) = some cs.size)
    (hg : ∀ w, J w → ∀ j, j < cs.size → w.cell? ⟨b, off + j, none⟩ = cs[j]?) (hn : wpAnyW P .any ops J Q n (listed.setIfInBounds i true) (a.put o.dst (.agg cs)) w) : wpAnyW P .any ops J Q (n + 1) listed a w := by
  refine w_read hJ i o (.agg cs) hi hs hf hr hw (fun w hc => ?_) hn
  unfold execOp
  simp only [ho, hx, Instr.loadAt, Instr.sureAddr, Sem.run_bind, Sem.run_pure, Result.andThen_ok, run_loadVar_flat w b off ty cs d (hg w hc) hu hd hif]
end
end Go.Proofs.YtmbcjcicieiolaaDoor.grow
