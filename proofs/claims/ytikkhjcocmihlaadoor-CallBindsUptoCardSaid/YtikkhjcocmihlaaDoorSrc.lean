/- 'append(out, src...)' as one step of a region that draws its order. No condition. -/
import Derived.Test.YtikkhjcocmihlaaDoorLib
namespace Go.Proofs.YtikkhjcocmihlaaDoor.lib
open Go.RowKit

theorem step_append_src {P : Program} (w0 W : World) {ops : Array Oper} {o : Oper} {a : Act} {K : Act → World → Prop} {Q : Exit → Act → World → Prop} {E : Prop} (hgd : o.guard = none) (s x : Operand) (t : TypeId)
    (ho : o.op = .call { callee := .builtin .append, args := #[s, x], argTypes := #[t, t] })
    (e : TypeId) (z : Value) (size bytes m : Nat) (ht : P.underlying t = some (.slice e)) (hinfo : (P.info? e).map (fun i => (i.zero, i.size, i.bytes)) = some (some z, size, bytes))
    (hzs : z.cells.size = size) (hsz : 0 < size)
    (v : Value) (n : Nat) (xs : List Value) (hout : Out w0 W e size v n xs) (hs : a.eval s = v)
    (v2 : Value) (ys : List Value) (hsrc : Sl W v2 m size ys) (hx : a.eval x = v2) (h1 : ∀ u ∈ ys, u.oneCell' = true)
    (h63 : (n + m) * bytes ≤ 140737488355328) (h64 : n + m ≤ 140737488355328)
    (h : ∀ v' w', Out w0 w' e size v' (n + m) (xs ++ ys) → W.grownBy w' v.ownBlock → K (a.put o.dst v') w') :
    if Region.wanted o (yielded ops a.tmps) = true then Oper.wp P o a W K Q else E := by
  have hw : Region.wanted o (yielded ops a.tmps) = true := by simp [Region.wanted, hgd]
  rw [if_pos hw]
  obtain ⟨i, hi, hz, hsize, hby⟩ := info_parts hinfo
  have hv : ∀ k, v.ownBlock = some k → w0.heap.size ≤ k := fun k hk => (hout.own.lt k hk).1
  obtain ⟨hl, ao, c, rfl, _, hcells⟩ := hsrc
  cases ao with
  | none =>
    have hys : ys = [] := by
      rcases hcells with h | ⟨b, off, hh, _⟩
      · exact h
      · cases hh
    subst hys
    have hm : m = 0 := by
      rcases Nat.eq_zero_or_pos m with h | h
      · exact h
      · have := Nat.mul_pos h hsz; simp at hl; omega
    subst hm
    have hrun := run_append_none' (P := P) (w := W) w0.heap.size t o.type e i size c ht hi v n xs hout.own
    unfold Oper.wp
    simp [execOp, ho, resolve, invoke, builtin, hs, hx, hrun, Result.andThen]
    have hk := h v W (by simpa using hout) (World.grownBy.refl _ _)
    simpa [Oper.upon] using hk
  | some ad =>
    refine wp_append_own _ s x t ho w0.heap.size e i z size bytes ht hi hz hsize hby hzs hsz v n xs hs hout.own ad m c ys hx hl ?_ h1 (by unfold maxLen; omega) h63 hout.below.size ?_
    · intro j u hu
      rcases hcells with h | ⟨b, off, hh, hc⟩
      · subst h; simp at hu
      · obtain rfl := Option.some.inj hh
        rw [Addr.add_lit]
        exact hc j u hu
    · intro v' w' h1 h2 _
      exact h v' w' ⟨h1, hout.below.grown h2 hout.below.size hv⟩ h2

theorem Sl.drew {w : World} {v : Value} {n size : Nat} {xs : List Value} (h : Sl w v n size xs) : Sl w.drew v n size xs := h.below (w' := w.drew) ((Below.refl _ _).drew)
end Go.Proofs.YtikkhjcocmihlaaDoor.lib
