/- Locks: the reference's NewLocks, Enter, Ring. Condition: not many calls came before. -/
import Derived.Test.YtmfhmikihnjkcaaLock15
import Derived.BigRegion
namespace Go.Proofs.Ytmfhmikihnjkcaa.locks
open Go.RowKit Go.Proofs.Ytmfhmikihnjkcaa.lib Go.Proofs.Ytmfhmikihnjkcaa.maps Go.Proofs.Ytmfhmikihnjkcaa.errs

theorem infoPair : (Try.prog.info? 59).map (fun i => (i.zero, i.size, i.bytes)) = some (some (.agg #[.int .i64 0, .int .i64 0]), 2, 16) := by kernel_rfl
theorem row50_new {w : World} {g : Nat} (h : w.heap[g]? = some (.cells (madeCells #[.int .i64 0] 50) 3 (0, 0))) : Row50 w g (fun _ => 0) := by
  refine ⟨_, h, by rw [madeCells_one]; simp, fun i hi => ?_⟩
  rw [madeCells_one]
  simp [hi]

/-- 'append(v, x)' for a list of pairs of an object's own -/
theorem wpList_append_pair {P : Program} (base : Nat) (W : World) (arr : Array Value) (B : Nat) {ops : Array Oper} {rest : List Oper} {o : Oper} {a : Act} {Q : Exit → Act → World → Prop} (hgd : o.guard = none) (s x : Operand) (t : TypeId)
    (ho : o.op = .call { callee := .builtin .append, args := #[s, x], argTypes := #[t, t] })
    (e : TypeId) (z : Value) (size bytes m : Nat) (ht : P.underlying t = some (.slice e)) (hinfo : (P.info? e).map (fun i => (i.zero, i.size, i.bytes)) = some (some z, size, bytes))
    (hzs : z.cells.size = size) (hsz : 0 < size)
    (v : Value) (n : Nat) (xs : List Value) (hbase : base ≤ W.heap.size) (hout : W.ownsRow base e size v n xs) (hs : a.eval s = v)
    (hx : a.eval x = .slice (some ⟨B, 0, none⟩) m m) (hB : W.heap.size = B) (hl : arr.size = m * size) (h1 : ∀ u ∈ arr.toList, u.oneCell' = true)
    (h63 : (n + m) * bytes ≤ 140737488355328) (h64 : n + m ≤ 140737488355328)
    (h : ∀ v' w', w'.ownsRow base e size v' (n + m) (xs ++ arr.toList) → W.grownBy w' v.ownBlock → (v'.ownBlock = v.ownBlock ∨ ∃ k, v'.ownBlock = some k ∧ W.heap.size ≤ k) → wpList P ops Q rest (a.put o.dst v') w') : wpList P ops Q (o :: rest) a (W.alloc (.cells arr e)) := by
  subst hB
  obtain ⟨i, hi, hz, hsize, hby⟩ := info_parts hinfo
  have ho1 := hout.alloc (.cells arr e)
  refine wpList_append_own_at _ hgd s x t ho base e i z size bytes ht hi hz hsize hby hzs hsz v n xs hs ho1 ⟨W.heap.size, 0, none⟩ m m arr.toList hx (by simpa using hl) ?_ h1 (by unfold maxLen; omega) h63 (by simp; omega) ?_
  · intro j u hu
    rw [Addr.add_lit, World.cell?_alloc_at _ _ _ _ rfl]
    simpa using hu
  · intro v' w' h1 h2 _ h3
    refine h v' w' h1 ⟨h2.os, h2.tape, h2.output, Nat.le_trans (by simp) h2.size, fun k hk hne => ?_⟩ ?_
    · rw [h2.block k (by simp; omega) hne]
      exact Below.heap_alloc _ _ _ hk
    · rcases h3 with h3 | h3
      · exact .inl h3
      · exact .inr ⟨_, h3, by simp⟩

/-- what a call leaves of the reference's locks -/
def RBy (w : World) (base q gw gt : Nat) (vw : Value) (A' : St) (w' : World) : Prop := ∃ vw', RL w' base q gw gt vw' A' ∧ Keeps (RF q gw gt vw) w w' ∧ ∀ k, vw'.ownBlock = some k → vw.ownBlock = some k ∨ w.heap.size ≤ k

set_option maxRecDepth 100000 in
set_option maxHeartbeats 4000000 in
theorem renter_bad {w : World} {base q gw gt c : Nat} {vw : Value} {A : St} (h : RL w base q gw gt vw A) (hI : Inv A c) (hc : c ≤ 1000000) (x k : Int) (hf : fault A x k ≠ 0) :
    Calls Try.prog 16 #[.pointer (some ⟨q, 0, none⟩), .int .i64 x, .int .i64 k] w fun e w' => e = .returned (.tuple #[.bool (enterOk A x k), .int .i64 (fault A x k)]) ∧ RBy w base q gw gt vw (enterSt A x k) w' := by
  have HW := hid (rfault_any h hI hc x k)
  have HQ : Hid (enterOk A x k = false ∧ RBy w base q gw gt vw (enterSt A x k) w) := hid ⟨by simp [enterOk, hf], vw, by rw [enterSt, if_pos hf]; exact h, Keeps.refl _ _, fun k hk => .inl hk⟩
  clear h hI
  obtain ⟨z, hz⟩ : ∃ z, fault A x k = z := ⟨_, rfl⟩
  rw [hz] at hf HW ⊢
  have hzb : (z == 0) = false := by simp [hf]
  go_enter Try.func16, Try.ntmps16
  go_wp2_with fail
  refine HW.out.mono ?_
  rintro e w1 ⟨rfl, rfl⟩
  go_wp2
  go_ret2
  exact ⟨by rw [HQ.out.1]; rfl, HQ.out.2⟩

set_option maxRecDepth 100000 in
set_option maxHeartbeats 4000000 in
theorem renter_take {w : World} {base q gw gt c : Nat} {vw : Value} {A : St} (h : RL w base q gw gt vw A) (hI : Inv A c) (hc : c ≤ 1000000) (x k : Int) (hf : fault A x k = 0) (hh : ¬ held A x k) :
    Calls Try.prog 16 #[.pointer (some ⟨q, 0, none⟩), .int .i64 x, .int .i64 k] w fun e w' => e = .returned (.tuple #[.bool (enterOk A x k), .int .i64 (fault A x k)]) ∧ RBy w base q gw gt vw (enterSt A x k) w' := by
  have HW := hid (rfault_any h hI hc x k)
  obtain ⟨_, ⟨hk0, hk1⟩, _⟩ := fault_zero hf
  obtain ⟨kk, rfl⟩ : ∃ kk : Nat, k = (kk : Int) := ⟨k.toNat, by omega⟩
  have hkk : kk < 50 := by omega
  obtain ⟨hq0, hq1, hq2⟩ := h.cells
  obtain ⟨hw0, hwf⟩ := h.who.cell hkk
  obtain ⟨ht0, htf⟩ := h.times.cell hkk
  have htb := hI.t0 (kk : Int)
  have hov : IntKind.i64.wrap (A.times (kk : Int) + 1) = A.times (kk : Int) + 1 := by rw [IntKind.wrap_i64]; omega
  obtain ⟨n1, n2, n3⟩ := h.ne
  have hK1 := Keeps.set w gw kk (.int .i64 x)
  have hq1' : (w.setCell ⟨gw, kk, none⟩ (.int .i64 x)).cell? ⟨q, 1, none⟩ = some (.slice (some ⟨gt, 0, none⟩) 50 50) := by rw [World.cell?_of_block (a := ⟨q, 1, none⟩) (hK1.block q (h.lt (.inl rfl)).2 n1)]; exact hq1
  have ht0' : (w.setCell ⟨gw, kk, none⟩ (.int .i64 x)).cell? ⟨gt, kk, none⟩ = some (.int .i64 (A.times (kk : Int))) := by rw [World.cell?_of_block (a := ⟨gt, kk, none⟩) (hK1.block gt h.times.lt (fun e => n3 e.symm))]; exact ht0
  have htf' := ((h.times.keep (w' := w.setCell ⟨gw, kk, none⟩ (.int .i64 x)) (hK1.block gt h.times.lt (fun e => n3 e.symm))).cell hkk).2
  have hK2 := Keeps.set (w.setCell ⟨gw, kk, none⟩ (.int .i64 x)) gt kk (.int .i64 (A.times (kk : Int) + 1))
  have HQ : Hid (enterOk A x (kk : Int) = true ∧ RBy w base q gw gt vw (enterSt A x (kk : Int)) ((w.setCell ⟨gw, kk, none⟩ (.int .i64 x)).setCell ⟨gt, kk, none⟩ (.int .i64 (A.times (kk : Int) + 1)))) := hid (by
    have hold : ∀ g, g < w.heap.size → g ≠ gw → g ≠ gt → ((w.setCell ⟨gw, kk, none⟩ (.int .i64 x)).setCell ⟨gt, kk, none⟩ (.int .i64 (A.times (kk : Int) + 1))).heap[g]? = w.heap[g]? := fun g hg a1 a2 =>
      (hK2.block g (Nat.lt_of_lt_of_le hg hK1.size) a2).trans (hK1.block g hg a1)
    refine ⟨by simp [enterOk, hf, hh], vw, ?_, ⟨hK2.os.trans hK1.os, hK2.tape.trans hK1.tape, hK2.output.trans hK1.output, Nat.le_trans hK1.size hK2.size, fun g hg hF => hold g hg (fun e => hF (.inr (.inl e))) (fun e => hF (.inr (.inr (.inl e))))⟩, fun k hk => .inl hk⟩
    rw [enterSt, if_neg (by rw [hf]; simp), if_neg hh]
    refine ⟨h.lo, h.ne, h.vne, ?_, ?_, ?_, ?_⟩
    · rw [hold q (h.lt (.inl rfl)).2 n1 n2]; exact h.top
    · exact (h.who.set hkk x).keep (hK2.block gw (Nat.lt_of_lt_of_le h.who.lt hK1.size) n3)
    · exact (h.times.keep (hK1.block gt h.times.lt (fun e => n3 e.symm))).set hkk _
    · exact ownsRow_keep h.row fun g hg => hold g (h.row.lt g hg).2 (h.vne g hg).2.1 (h.vne g hg).2.2)
  have HF := hid hf
  have HH := hid hh
  unfold held at hh
  have hki : (0 : Int) ≤ (kk : Int) := by omega
  generalize hT : A.times (kk : Int) = T at ht0 hov ht0' HQ htb
  generalize hY : A.who (kk : Int) = Y at hw0
  rw [hT, hY] at hh
  clear h hI hf hK1 hK2 n1 n2 n3
  go_enter Try.func16, Try.ntmps16
  go_wp2_with fail
  refine HW.out.mono ?_
  rintro e w1 ⟨rfl, rfl⟩
  rw [HF.out]
  by_cases hp : 0 < T
  · have hyx : Y = x := Classical.not_not.1 fun e => hh ⟨hp, e⟩
    subst hyx
    clear hh
    go_wp2
    go_ret2
    exact ⟨by rw [HQ.out.1, HF.out]; rfl, HQ.out.2⟩
  · clear hh
    go_wp2
    go_ret2
    exact ⟨by rw [HQ.out.1, HF.out]; rfl, HQ.out.2⟩

set_option maxRecDepth 100000 in
set_option maxHeartbeats 4000000 in
theorem renter_wait {w : World} {base q gw gt c : Nat} {vw : Value} {A : St} (h : RL w base q gw gt vw A) (hI : Inv A c) (hc : c ≤ 1000000) (x k : Int) (hf : fault A x k = 0) (hh : held A x k) :
    Calls Try.prog 16 #[.pointer (some ⟨q, 0, none⟩), .int .i64 x, .int .i64 k] w fun e w' => e = .returned (.tuple #[.bool (enterOk A x k), .int .i64 (fault A x k)]) ∧ RBy w base q gw gt vw (enterSt A x k) w' := by
  have HW := hid (rfault_any h hI hc x k)
  obtain ⟨_, ⟨hk0, hk1⟩, _⟩ := fault_zero hf
  obtain ⟨kk, rfl⟩ : ∃ kk : Nat, k = (kk : Int) := ⟨k.toNat, by omega⟩
  have hkk : kk < 50 := by omega
  obtain ⟨hq0, hq1, hq2⟩ := h.cells
  have hq2f := frozen_of h.top 2
  obtain ⟨hw0, hwf⟩ := h.who.cell hkk
  obtain ⟨ht0, htf⟩ := h.times.cell hkk
  obtain ⟨hp, hne⟩ := hh
  have hne2 : (A.who (kk : Int) == x) = false := by simp [hne]
  have hne3 : (A.who (kk : Int) != x) = true := by simp [hne]
  have HH := hid h
  have HLEN := hid hI.len
  have HE : Hid (enterOk A x (kk : Int) = false) := hid (by unfold enterOk; rw [decide_eq_false_iff_not]; exact fun h2 => h2.2 ⟨hp, hne⟩)
  have HST : Hid (enterSt A x (kk : Int) = waitSt A x (kk : Int)) := hid (by rw [enterSt, if_neg (by rw [hf]; simp), if_pos ⟨hp, hne⟩])
  have HF := hid hf
  have hbase : base ≤ w.heap.size := by have := h.lt (k := q) (.inl rfl); omega
  obtain ⟨a, d, hv⟩ := h.sl.val
  subst hv
  generalize hT : A.times (kk : Int) = T at ht0 hp
  generalize hY : A.who (kk : Int) = Y at hw0 hne2 hne3
  clear h hI hf hne hT hY
  go_enter Try.func16, Try.ntmps16
  go_wp2_with fail
  refine HW.out.mono ?_
  rintro e w1 ⟨rfl, rfl⟩
  rw [HF.out]
  go_wp2_with (at_builtin; refine wpList_append_pair base _ _ _ rfl _ _ 56 rfl 59 _ 2 16 1 Try.underlying56 infoPair rfl (by decide) _ _ _ hbase HH.out.row rfl rfl rfl rfl ?_ ?_ ?_ ?_)
  all_goals first | (intro v' w' ho hg hat) | (have := HLEN.out; omega) | (simp [Value.oneCell']; done) | skip
  have hqb : ∀ g, RF q gw gt (.slice a A.waits.length d) g → ¬ (Value.slice a A.waits.length d).ownBlock = some g → w'.heap[g]? = w.heap[g]? := fun g hF hne => hg.block g (HH.out.lt hF).2 (fun e => hne e.symm)
  have hqn : ¬ (Value.slice a A.waits.length d).ownBlock = some q := fun e => (HH.out.vne q e).1 rfl
  have hwn : ¬ (Value.slice a A.waits.length d).ownBlock = some gw := fun e => (HH.out.vne gw e).2.1 rfl
  have htn : ¬ (Value.slice a A.waits.length d).ownBlock = some gt := fun e => (HH.out.vne gt e).2.2 rfl
  have hqh : w'.heap[q]? = some (.cells #[.slice (some ⟨gw, 0, none⟩) 50 50, .slice (some ⟨gt, 0, none⟩) 50 50, .slice a A.waits.length d] 58 (0, 0)) := (hqb q (.inl rfl) hqn).trans HH.out.top
  have hq2' : w'.cell? ⟨q, 2, none⟩ = some (.slice a A.waits.length d) := by rw [cell_of hqh]; rfl
  have hq2f' := frozen_of hqh 2
  have hK := Keeps.set w' q 2 v'
  have hvold : ∀ g, v'.ownBlock = some g → (Value.slice a A.waits.length d).ownBlock = some g ∨ w.heap.size ≤ g := fun g hg' => by
    rcases hat with hat | ⟨j, hat, hj⟩
    · exact .inl (by rw [← hat]; exact hg')
    · rw [hat] at hg'; obtain rfl := Option.some.inj hg'; exact .inr hj
  have hvne : ∀ g, v'.ownBlock = some g → g ≠ q ∧ g ≠ gw ∧ g ≠ gt := fun g hg' => by
    rcases hvold g hg' with h1 | h1
    · exact HH.out.vne g h1
    · have h2 := (HH.out.lt (k := q) (.inl rfl)).2
      have h3 := (HH.out.lt (k := gw) (.inr (.inl rfl))).2
      have h4 := (HH.out.lt (k := gt) (.inr (.inr (.inl rfl)))).2
      omega
  have HR : Hid (RBy w base q gw gt (.slice a A.waits.length d) (waitSt A x (kk : Int)) (w'.setCell ⟨q, 2, none⟩ v')) := hid (by
    refine ⟨v', ⟨HH.out.lo, HH.out.ne, hvne, ?_, ?_, ?_, ?_⟩, ⟨hK.os.trans hg.os, hK.tape.trans hg.tape, hK.output.trans hg.output, Nat.le_trans hg.size hK.size, fun g hgl hF => ?_⟩, hvold⟩
    · rw [heap_set hqh]; rfl
    · exact HH.out.who.keep ((hK.block gw (Nat.lt_of_lt_of_le HH.out.who.lt hg.size) (fun e => HH.out.ne.1 e.symm)).trans (hqb gw (.inr (.inl rfl)) hwn))
    · exact HH.out.times.keep ((hK.block gt (Nat.lt_of_lt_of_le HH.out.times.lt hg.size) (fun e => HH.out.ne.2.1 e.symm)).trans (hqb gt (.inr (.inr (.inl rfl))) htn))
    · have h1 : w'.ownsRow base 59 2 v' (waitSt A x (kk : Int)).waits.length (wcells (waitSt A x (kk : Int)).waits) := by
        unfold waitSt wcells
        rw [List.flatMap_append, List.length_append]
        exact ho
      exact ownsRow_keep h1 fun g hg' => hK.block g (h1.lt g hg').2 (hvne g hg').1
    · exact (hK.block g (Nat.lt_of_lt_of_le hgl hg.size) (fun e => hF (.inl e))).trans (hg.block g hgl (fun e => hF (.inr (.inr (.inr e.symm))))))
  obtain ⟨a', n', d', hva⟩ : ∃ a' n' d', v' = .slice a' n' d' := by
    rcases ho.2 with ⟨h1, _⟩ | ⟨g, cap, cur, h1, _⟩
    · exact ⟨_, _, _, h1⟩
    · exact ⟨_, _, _, h1⟩
  subst hva
  clear ho hg hat hqb hqn hwn htn hqh hK hvold hvne hq2 hq2f hq0 hq1 hw0 hwf ht0 htf
  go_wp2
  go_ret2
  exact ⟨by rw [HE.out, HF.out]; rfl, by rw [HST.out]; exact HR.out⟩

theorem renter_any {w : World} {base q gw gt c : Nat} {vw : Value} {A : St} (h : RL w base q gw gt vw A) (hI : Inv A c) (hc : c ≤ 1000000) (x k : Int) :
    Calls Try.prog 16 #[.pointer (some ⟨q, 0, none⟩), .int .i64 x, .int .i64 k] w fun e w' => e = .returned (.tuple #[.bool (enterOk A x k), .int .i64 (fault A x k)]) ∧ RBy w base q gw gt vw (enterSt A x k) w' := by
  by_cases hf : fault A x k = 0
  · by_cases hh : held A x k
    · exact renter_wait h hI hc x k hf hh
    · exact renter_take h hI hc x k hf hh
  · exact renter_bad h hI hc x k hf
end Go.Proofs.Ytmfhmikihnjkcaa.locks
