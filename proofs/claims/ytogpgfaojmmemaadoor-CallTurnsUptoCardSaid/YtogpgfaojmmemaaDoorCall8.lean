/- Handles called: call.made of a right handle tells what the plain function tells. Condition: as many numbers as its type says. -/
import Derived.Test.YtogpgfaojmmemaaDoorCall3
import Derived.Test.YtogpgfaojmmemaaDoorCall4
import Derived.Test.YtogpgfaojmmemaaDoorCall6
import Derived.Test.YtogpgfaojmmemaaDoorCall7
set_option linter.unusedSimpArgs false
set_option linter.unusedVariables false
namespace Go.Proofs.YtogpgfaojmmemaaDoor.hands
open Go.RowKit Go.Proofs.YtogpgfaojmmemaaDoor.lib Go.Proofs.YtogpgfaojmmemaaDoor.errs Go.Proofs.YtogpgfaojmmemaaDoor.mtypes Go.Proofs.YtogpgfaojmmemaaDoor.grow Go.Proofs.YtogpgfaojmmemaaDoor.nums

theorem put_len (ts : List (List UInt8)) (i : Nat) (t : List UInt8) (hi : i ≤ ts.length) : (putL ts i t).length = ts.length + 1 := by rw [putL_len _ hi]

set_option maxHeartbeats 1000000 in
theorem made_any {x : Nd} {ts : List (List UInt8)} {g : List UInt8} (h : Right x ts g) : ∀ (w : World) (va : Value) (az : List Int), NAt w x → az.length = ts.length → Sl w va az.length 1 (az.map iv) →
    Calls Tryd.prog 31 #[.agg #[.int .i64 x.k, .string x.t, .int .i64 x.a, x.va, x.vs], va] w (MadeBy w (toldN x az)) := by
  induction h with
  | @const x t h1 hs h2 h3 h4 =>
    intro w va az hx hl haz
    obtain ⟨a1, c1, e1⟩ := hx.1.1.val
    obtain ⟨a2, c2, e2⟩ := hx.1.2.val
    obtain ⟨aa, ca, rfl⟩ := haz.val
    rw [told_const h1, e1, e2, h1]
    exact made_const _ _ _ _ _ _ _ _ _ _ az w haz (by simp at hl; simp [hl])
  | @same x t h1 hs h2 h3 =>
    intro w va az hx hl haz
    obtain ⟨a1, c1, e1⟩ := hx.1.1.val
    obtain ⟨a2, c2, e2⟩ := hx.1.2.val
    obtain ⟨aa, ca, rfl⟩ := haz.val
    match az, hl with
    | [v], _ =>
      rw [told_same h1 hs, e1, e2, h1]
      exact made_same _ _ _ _ _ _ _ _ _ _ [v] w haz (by show 1 ≤ 100; decide) v rfl
  | @neg x t h1 hs h2 h3 h4 =>
    intro w va az hx hl haz
    obtain ⟨a1, c1, e1⟩ := hx.1.1.val
    obtain ⟨a2, c2, e2⟩ := hx.1.2.val
    obtain ⟨aa, ca, rfl⟩ := haz.val
    match az, hl with
    | [v], _ =>
      rw [told_math h1, e1, e2, h1]
      exact made_neg _ _ _ _ _ _ _ _ _ _ v w _ rfl haz
  | @math x t u h1 hs h2 h3 h4 h5 =>
    intro w va az hx hl haz
    obtain ⟨a1, c1, e1⟩ := hx.1.1.val
    obtain ⟨a2, c2, e2⟩ := hx.1.2.val
    obtain ⟨aa, ca, rfl⟩ := haz.val
    match az, hl with
    | [v1, v2], _ =>
      rw [told_math h1, e1, e2, h1]
      exact made_two _ _ _ _ _ _ _ _ _ _ v1 v2 w _ rfl haz
  | @drop x y ts g i h1 hs h2 hi h5 h6 hy ih =>
    intro w va az hx hl haz
    obtain ⟨a1, c1, e1⟩ := hx.1.1.val
    obtain ⟨a2, c2, e2⟩ := hx.1.2.val
    obtain ⟨aa, ca, rfl⟩ := haz.val
    have hyA := (node_at hx.2 (by rw [hs]; exact List.mem_singleton.2 rfl : y ∈ nodes x.subs)).1
    rw [put_len _ _ _ hi] at hl
    have hsl := hx.1.2
    rw [e2] at hsl
    rw [told_one hs (by omega) (by omega), if_pos h1, e1, e2, h1, h2, show ((i : Int)).toNat = i from by omega]
    exact made_drop _ i _ _ _ _ _ _ _ _ az w haz (by omega) (by omega) (nodes x.subs) rfl hsl y (by rw [hs]; rfl) hyA (fun u v hb hv => ih u v _ (hyA.below hb) (by rw [List.length_eraseIdx, if_pos (by omega)]; omega) hv)
  | @perm x y ts ms g h1 hs hl0 hp h5 hy ih =>
    intro w va az hx hl haz
    obtain ⟨a1, c1, e1⟩ := hx.1.1.val
    obtain ⟨a2, c2, e2⟩ := hx.1.2.val
    obtain ⟨aa, ca, rfl⟩ := haz.val
    have hyA := (node_at hx.2 (by rw [hs]; exact List.mem_singleton.2 rfl : y ∈ nodes x.subs)).1
    have hsl := hx.1.2
    have hat := hx.1.1
    rw [e2] at hsl
    rw [e1] at hat
    have h5' := right_len hy
    rw [told_one hs (by omega) (by omega), if_neg (by omega), e1, e2, h1]
    refine made_perm _ _ x.ats _ _ _ _ _ _ _ _ az w haz (by omega) rfl (by omega) hat (fun z hz => ?_) (nodes x.subs) rfl hsl y (by rw [hs]; rfl) hyA (fun u v hb hv => ih u v _ (hyA.below hb) (by rw [permA_len, hl0]) hv)
    obtain ⟨j, hj, rfl⟩ := List.mem_iff_getElem.1 hz
    obtain ⟨z0, z1, _⟩ := perm_ok hp hl0 j _ _ (List.getElem?_eq_getElem hj) (List.getElem?_eq_getElem (hl0 ▸ hj))
    exact ⟨z0, by omega⟩
  | @bind x y z ts g q i h1 hs h2 hq hy hz ihy ihz =>
    intro w va az hx hl haz
    obtain ⟨a1, c1, e1⟩ := hx.1.1.val
    obtain ⟨a2, c2, e2⟩ := hx.1.2.val
    obtain ⟨aa, ca, rfl⟩ := haz.val
    have hyA := (node_at hx.2 (by rw [hs]; exact List.mem_cons_self .. : y ∈ nodes x.subs)).1
    have hzA := (node_at hx.2 (by rw [hs]; exact List.mem_cons_of_mem _ (List.mem_cons_self ..) : z ∈ nodes x.subs)).1
    have hi : i < ts.length := (List.getElem?_eq_some_iff.1 hq).1
    rw [List.length_eraseIdx, if_pos hi] at hl
    have h5' := right_len hy
    have hsl := hx.1.2
    rw [e2] at hsl
    rw [told_two hs (by omega) (by omega), if_pos h1, e1, e2, h1, h2, show ((i : Int)).toNat = i from by omega]
    have hm1 : ∀ (u : World) (v : Value), Below w.heap.size w u → Sl u v ([] : List Int).length 1 (([] : List Int).map iv) → _ := fun u v hb hv => ihz u v [] (hzA.below hb) rfl hv
    cases hn : toldN z [] with
    | none => exact made_bind_none _ i _ _ _ _ _ _ _ _ az w haz (by omega) (by omega) (nodes x.subs) rfl hsl z (by rw [hs]; rfl) hzA hm1 hn
    | some m => exact made_bind _ m i _ _ _ _ _ _ _ _ az w haz (by omega) (by omega) (nodes x.subs) rfl hsl y (by rw [hs]; rfl) hyA (fun u v hb hv => ihy u v _ (hyA.below hb) (by rw [insAt_len m (by omega)]; omega) hv) z (by rw [hs]; rfl) hzA hm1 hn
  | @filter x y z ts g q u i h1 hs h2 hq hy hz ihy ihz =>
    intro w va az hx hl haz
    obtain ⟨a1, c1, e1⟩ := hx.1.1.val
    obtain ⟨a2, c2, e2⟩ := hx.1.2.val
    obtain ⟨aa, ca, rfl⟩ := haz.val
    have hyA := (node_at hx.2 (by rw [hs]; exact List.mem_cons_self .. : y ∈ nodes x.subs)).1
    have hzA := (node_at hx.2 (by rw [hs]; exact List.mem_cons_of_mem _ (List.mem_cons_self ..) : z ∈ nodes x.subs)).1
    have hi : i < ts.length := (List.getElem?_eq_some_iff.1 hq).1
    rw [List.length_set] at hl
    have h5' := right_len hy
    have hsl := hx.1.2
    rw [e2] at hsl
    have hia : i < az.length := by omega
    have e : az.getD i 0 = az[i] := by simp [List.getD, List.getElem?_eq_getElem hia]
    rw [told_two hs (by omega) (by omega), if_neg (by omega), e1, e2, h1, h2, show ((i : Int)).toNat = i from by omega, e]
    have hm1 : ∀ (u : World) (v : Value), Below w.heap.size w u → Sl u v [az[i]].length 1 ([az[i]].map iv) → _ := fun u v hb hv => ihz u v [az[i]] (hzA.below hb) rfl hv
    cases hn : toldN z [az[i]] with
    | none => exact made_filter_none _ i _ _ _ _ _ _ _ _ az w haz (by omega) _ (List.getElem?_eq_getElem hia) (nodes x.subs) rfl hsl z (by rw [hs]; rfl) hzA hm1 hn
    | some m => exact made_filter _ m i _ _ _ _ _ _ _ _ az w haz (by omega) _ (List.getElem?_eq_getElem hia) (nodes x.subs) rfl hsl y (by rw [hs]; rfl) hyA (fun u v hb hv => ihy u v _ (hyA.below hb) (by rw [List.length_set]; omega) hv) z (by rw [hs]; rfl) hzA hm1 hn

end Go.Proofs.YtogpgfaojmmemaaDoor.hands
