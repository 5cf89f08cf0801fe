/- The order in which classes are there, in plain words. No condition. -/
import Derived.Maps.RangeWalk
import Derived.Test.YtloonnfelgokmaaGreatDoorZKndZ
import Derived.Test.YtloonnfelgokmaaGreatDoorZWldY
import Derived.Test.YtloonnfelgokmaaGreatDoorZJnZ
import Derived.Test.YtloonnfelgokmaaGreatDoorZStpB
import Derived.Test.YtloonnfelgokmaaGreatDoorZRunC
set_option maxRecDepth 100000
set_option maxHeartbeats 16000000
set_option linter.unusedSimpArgs false
set_option linter.unusedVariables false
namespace Go.Proofs.YtloonnfelgokmaaGreatDoor.worlds
open Go.RowKit lib maps classes errs descs names
def orderU (W : WL) (U : List ByteArray) (i : Nat) : List ByteArray := (U.take i).foldl (fun out u => addAll out (lineOf W u).reverse) [objB]
theorem orderU_step {W : WL} {U : List ByteArray} {i : Nat} (h : i < U.length) : orderU W U (i + 1) = addAll (orderU W U i) (lineOf W U[i]).reverse := by
 unfold orderU
 rw [List.take_succ_eq_append_getElem h, List.foldl_append]
 rfl
theorem addAll_append (l m : List ByteArray) : ∀ out, addAll out (l ++ m) = addAll (addAll out l) m := by
 induction l with
 | nil => intro out; rfl
 | cons a r ih => intro out; exact ih _
theorem addAll_take {out l : List ByteArray} {k : Nat} (h : k < l.length) : addAll out (l.take (k + 1)) = if inTexts l[k] (addAll out (l.take k)) = true then addAll out (l.take k) else addAll out (l.take k) ++ [l[k]] := by
 rw [List.take_succ_eq_append_getElem h, addAll_append]
 rfl
structure Ord (W : WL) (out : List ByteArray) : Prop where
 first : out[0]? = some objB
 once : out.Nodup
 keys : ∀ c ∈ out, (getK W c).isSome = true
 sup : ∀ (k : Nat) (c : ByteArray), out[k]? = some c → c = objB ∨ ∃ j, j < k ∧ out[j]? = some (cAt W c).sup
theorem ord_start {W : WL} (h : Closed W) : Ord W [objB] := by
 refine ⟨rfl, by simp, fun c hc => ?_, fun k c hk => .inl ?_⟩
 ·rw [List.mem_singleton.1 hc, h.good.obj]; rfl
 ·have := List.mem_of_getElem? hk
  exact List.mem_singleton.1 this
theorem ord_line {W : WL} (h : Closed W) {n : ByteArray} {L : List ByteArray} (hl : Line W n L) : ∀ {out : List ByteArray}, Ord W out → (getK W n).isSome = true → Ord W (addAll out L.reverse) ∧ n ∈ addAll out L.reverse := by
 induction hl with
 | @stop n h0 =>
  intro out ho hn
  obtain ⟨c, hc⟩ := Option.isSome_iff_exists.1 hn
  have e := Closed.cAt hc
  rcases h.sup n c hc with rfl | ⟨h1, _⟩
  ·have hm : objB ∈ out := List.mem_of_getElem? ho.first
   have e2 : addAll out [objB].reverse = out := by
    show (if inTexts objB out = true then out else out ++ [objB]) = out
    rw [if_pos (inT_mem.2 hm)]
   rw [e2]
   exact ⟨ho, hm⟩
  ·rw [e] at h0; exact absurd h0 h1
 | @up n l h0 hl ih =>
  intro out ho hn
  obtain ⟨c, hc⟩ := Option.isSome_iff_exists.1 hn
  have e := Closed.cAt hc
  have hs : (getK W (cAt W n).sup).isSome = true := by
   rcases h.sup n c hc with rfl | ⟨_, h2⟩
   ·rw [h.good.obj] at hc
    cases hc
    rw [e] at h0
    exact absurd rfl h0
   ·rw [e]; exact h2
  obtain ⟨h1, h2⟩ := ih ho hs
  rw [List.reverse_cons, addAll_append]
  generalize addAll out l.reverse = M at h1 h2
  show Ord W (if inTexts n M = true then M else M ++ [n]) ∧ n ∈ (if inTexts n M = true then M else M ++ [n])
  by_cases hin : inTexts n M = true
  ·rw [if_pos hin]
   exact ⟨h1, inT_mem.1 hin⟩
  ·rw [if_neg hin]
   have hnot : n ∉ M := fun hm => hin (inT_mem.2 hm)
   have h0l : 0 < M.length := by
    cases M with
    | nil => exact absurd h1.first (by simp)
    | cons _ _ => simp
   refine ⟨⟨?_, ?_, fun d hd => ?_, fun k d hk => ?_⟩, by simp⟩
   ·rw [List.getElem?_append_left h0l]; exact h1.first
   ·rw [List.nodup_append]
    refine ⟨h1.once, by simp, fun a ha b hb => ?_⟩
    rw [List.mem_singleton.1 hb]
    rintro rfl
    exact hnot ha
   ·rcases List.mem_append.1 hd with hd | hd
    ·exact h1.keys d hd
    ·rw [List.mem_singleton.1 hd]; exact hn
   ·by_cases hlt : k < M.length
    ·rw [List.getElem?_append_left hlt] at hk
     rcases h1.sup k d hk with hd | ⟨j, hj, hjs⟩
     ·exact .inl hd
     ·exact .inr ⟨j, hj, by rw [List.getElem?_append_left (by omega)]; exact hjs⟩
    ·rw [List.getElem?_append_right (by omega)] at hk
     have hk0 : k = M.length := by
      have := (List.getElem?_eq_some_iff.1 hk).1
      simp only [List.length_singleton] at this
      omega
     subst hk0
     rw [Nat.sub_self] at hk
     obtain rfl : n = d := by simpa using hk
     obtain ⟨j, hj, hjs⟩ := List.getElem_of_mem h2
     exact .inr ⟨j, hj, by rw [List.getElem?_append_left hj, List.getElem?_eq_getElem hj, hjs]⟩
theorem ord_all {W : WL} (h : Closed W) {U : List ByteArray} (hU : ∀ u ∈ U, (getK W u).isSome = true) : ∀ i, i ≤ U.length → Ord W (orderU W U i) ∧ ∀ u ∈ U.take i, u ∈ orderU W U i
 | 0, _ => ⟨ord_start h, fun u hu => by simp at hu⟩
 | i + 1, hi => by
  have hlt : i < U.length := by omega
  obtain ⟨h1, h2⟩ := ord_all h hU i (by omega)
  have hl := (line_of h.good.sound U[i]).1
  obtain ⟨h3, h4⟩ := ord_line h hl h1 (hU _ (List.getElem_mem hlt))
  rw [orderU_step hlt]
  refine ⟨h3, fun u hu => ?_⟩
  rw [List.take_succ_eq_append_getElem hlt] at hu
  rcases List.mem_append.1 hu with hu | hu
  ·exact (mem_add _ _ _).2 (.inl (h2 u hu))
  ·rw [List.mem_singleton.1 hu]; exact h4
def lastI (x : ByteArray) (l : List ByteArray) : Nat → Int
 | 0 => -1
 | k + 1 => if l[k]? = some x then (k : Int) else lastI x l k
def timesI (x : ByteArray) (l : List ByteArray) : Nat → Int
 | 0 => 0
 | k + 1 => if l[k]? = some x then timesI x l k + 1 else timesI x l k
theorem lastI_step {x : ByteArray} {l : List ByteArray} {k : Nat} (h : k < l.length) : lastI x l (k + 1) = if l[k] = x then (k : Int) else lastI x l k := by
 show (if l[k]? = some x then (k : Int) else lastI x l k) = _
 rw [List.getElem?_eq_getElem h]; simp
theorem timesI_step {x : ByteArray} {l : List ByteArray} {k : Nat} (h : k < l.length) : timesI x l (k + 1) = if l[k] = x then timesI x l k + 1 else timesI x l k := by
 show (if l[k]? = some x then timesI x l k + 1 else timesI x l k) = _
 rw [List.getElem?_eq_getElem h]; simp
theorem nodup_at {l : List ByteArray} (h : l.Nodup) {i j : Nat} {x : ByteArray} (hi : l[i]? = some x) (hj : l[j]? = some x) : i = j :=
 (List.getElem?_inj (List.getElem?_eq_some_iff.1 hi).1 h).1 (hi.trans hj.symm)
theorem lastI_none {x : ByteArray} {l : List ByteArray} {p : Nat} (h : l.Nodup) (hp : l[p]? = some x) : ∀ k, k ≤ p → lastI x l k = -1 ∧ timesI x l k = 0
 | 0, _ => ⟨rfl, rfl⟩
 | k + 1, hk => by
  obtain ⟨h1, h2⟩ := lastI_none h hp k (by omega)
  have : ¬ l[k]? = some x := fun e => by have := nodup_at h e hp; omega
  exact ⟨by rw [lastI, if_neg this, h1], by rw [timesI, if_neg this, h2]⟩
theorem lastI_one {x : ByteArray} {l : List ByteArray} {p : Nat} (h : l.Nodup) (hp : l[p]? = some x) : ∀ k, p < k → lastI x l k = (p : Int) ∧ timesI x l k = 1
 | 0, hk => absurd hk (Nat.not_lt_zero _)
 | k + 1, hk => by
  by_cases e : k = p
  ·subst e
   obtain ⟨h1, h2⟩ := lastI_none h hp k (Nat.le_refl _)
   exact ⟨by rw [lastI, if_pos hp], by rw [timesI, if_pos hp, h2]; rfl⟩
  ·obtain ⟨h1, h2⟩ := lastI_one h hp k (by omega)
   have : ¬ l[k]? = some x := fun e2 => e (nodup_at h e2 hp)
   exact ⟨by rw [lastI, if_neg this, h1], by rw [timesI, if_neg this, h2]⟩
theorem last_range (x : ByteArray) (l : List ByteArray) : ∀ k, -1 ≤ lastI x l k ∧ lastI x l k < (k : Int) ∧ 0 ≤ timesI x l k ∧ timesI x l k ≤ (k : Int)
 | 0 => by simp [lastI, timesI]
 | k + 1 => by
  obtain ⟨h1, h2, h3, h4⟩ := last_range x l k
  rw [lastI, timesI]
  split <;> omega
theorem read_classes {l : List CV} {W : WL} (h : readW l = (0, W)) : (l.map (·.nm)).Nodup ∧ ∀ c ∈ l, getK W c.nm = some c ∧ c.nm ≠ objB ∧ c.nm ≠ fltB := by
 unfold readW at h
 by_cases h0 : 10 < l.length
 ·rw [if_pos h0] at h; simp at h
 rw [if_neg h0] at h
 obtain ⟨f, V, hV⟩ : ∃ f V, load firstW l = (f, V) := ⟨_, _, rfl⟩
 rw [hV] at h
 simp only at h
 by_cases h1 : f ≠ 0
 ·rw [if_pos h1] at h
  simp only [Prod.mk.injEq] at h
  exact absurd h.1 h1
 rw [if_neg h1] at h
 obtain rfl : f = 0 := by simpa using h1
 by_cases h2 : firstF (joinFault V) l ≠ 0
 ·rw [if_pos h2] at h
  simp only [Prod.mk.injEq] at h
  exact absurd h.1 h2
 rw [if_neg h2] at h
 by_cases h3 : firstF (roundFault V) l ≠ 0
 ·rw [if_pos h3] at h
  simp at h
 rw [if_neg h3] at h
 simp only [Prod.mk.injEq, true_and] at h
 subst h
 have key : ∀ {l : List CV} {U : WL}, load U l = (0, V) → (l.map (·.nm)).Nodup ∧ ∀ c ∈ l, getK U c.nm = none := by
  intro l
  induction l with
  | nil => intro U _; exact ⟨List.nodup_nil, fun c hc => absurd hc List.not_mem_nil⟩
  | cons c r ih =>
   intro U hU
   unfold load at hU
   by_cases b1 : clsFault c ≠ 0
   ·rw [if_pos b1] at hU
    exact absurd (Prod.mk.inj hU).1 b1
   rw [if_neg b1] at hU
   by_cases b2 : (getK U c.nm).isSome = true
   ·rw [if_pos b2] at hU
    exact absurd (Prod.mk.inj hU).1 (by decide)
   rw [if_neg b2] at hU
   obtain ⟨i1, i2⟩ := ih hU
   have hn : getK U c.nm = none := by simpa using b2
   refine ⟨?_, fun d hd => ?_⟩
   ·rw [List.map_cons, List.nodup_cons]
    refine ⟨fun hm => ?_, i1⟩
    obtain ⟨d, hd, he⟩ := List.mem_map.1 hm
    have := i2 d hd
    rw [getK_set, he, if_pos rfl] at this
    cases this
   ·rcases List.mem_cons.1 hd with rfl | hd
    ·exact hn
    ·have := i2 d hd
     rw [getK_set] at this
     split at this
     ·cases this
     ·exact this
 obtain ⟨k1, k2⟩ := key hV
 obtain ⟨_, g2, _⟩ := load_get hV
 refine ⟨k1, fun c hc => ⟨(g2 c hc).1, fun e => ?_, fun e => ?_⟩⟩
 ·have := k2 c hc
  rw [e] at this
  simp [firstW, getK] at this
 ·have := k2 c hc
  rw [e] at this
  simp only [firstW, getK] at this
  rw [if_neg (fun h => obj_flt h.symm)] at this
  simp at this
theorem starts_ok {l : List CV} {W : WL} (h : readW l = (0, W)) {out : List ByteArray} (ho : orderU W (l.map (·.nm)) (l.map (·.nm)).length = out) :
  out[0]? = some objB ∧ l.length + 1 ≤ out.length ∧ ∀ c ∈ l, timesI c.nm out out.length = 1 ∧ 0 ≤ lastI c.sup out out.length ∧ lastI c.sup out out.length < lastI c.nm out out.length := by
 have hc := read_closed h
 obtain ⟨hn, hcl⟩ := read_classes h
 obtain ⟨h1, h2⟩ := ord_all hc (U := l.map (·.nm)) (fun u hu => by
  obtain ⟨c, hcm, rfl⟩ := List.mem_map.1 hu
  rw [(hcl c hcm).1]; rfl) _ (Nat.le_refl _)
 rw [ho, List.take_length] at h2
 rw [ho] at h1
 refine ⟨h1.first, ?_, fun c hcm => ?_⟩
 ·have : (objB :: l.map (·.nm)).length ≤ out.length := nodup_le (by
   rw [List.nodup_cons]
   refine ⟨fun hm => ?_, hn⟩
   obtain ⟨c, hcm, he⟩ := List.mem_map.1 hm
   exact (hcl c hcm).2.1 he) (fun x hx => by
   rcases List.mem_cons.1 hx with rfl | hx
   ·exact List.mem_of_getElem? h1.first
   ·exact h2 x hx)
  simpa using this
 ·obtain ⟨p, hp, hpe⟩ := List.getElem_of_mem (h2 c.nm (List.mem_map.2 ⟨c, hcm, rfl⟩))
  have hp' : out[p]? = some c.nm := by rw [List.getElem?_eq_getElem hp, hpe]
  obtain ⟨a1, a2⟩ := lastI_one h1.once hp' out.length hp
  rcases h1.sup p c.nm hp' with e | ⟨j, hj, hjs⟩
  ·exact absurd e (hcl c hcm).2.1
  ·rw [Closed.cAt (hcl c hcm).1] at hjs
   obtain ⟨b1, b2⟩ := lastI_one h1.once hjs out.length (by omega)
   rw [a1, a2, b1]
   exact ⟨rfl, by omega, by omega⟩
theorem orderU_len {W : WL} (h : Closed W) {U : List ByteArray} (hU : ∀ u ∈ U, (getK W u).isSome = true) {i : Nat} (hi : i ≤ U.length) : (orderU W U i).length ≤ W.length := by
 obtain ⟨h1, _⟩ := ord_all h hU i hi
 have : (orderU W U i).length ≤ (W.map (·.1)).length := nodup_le h1.once (fun x hx => by
  obtain ⟨c, hc⟩ := Option.isSome_iff_exists.1 (h1.keys x hx)
  exact List.mem_map.2 ⟨_, getK_mem hc, rfl⟩)
 simpa using this
open Go.RowKit lib maps classes errs descs names grow keep ins
def OrderBy (w : World) (l : List CV) (U : List ByteArray) (e : Ending) (w' : World) : Prop :=
 Below w.heap.size w w' ∧ if (readW l).1 = 0 then ∃ v, e = .returned (.tuple #[v, .nilIface]) ∧ Sl w' v (orderU (readW l).2 U U.length).length 1 ((orderU (readW l).2 U U.length).map .string) else e = .returned (.tuple #[.slice none 0 0, errVal (readW l).1])
theorem order_any (va vu : Value) (l : List CV) (U : List ByteArray) (w : World) (hl : Clss w va l) (hf : FormsAt w) (hsm : ∀ c ∈ l, SmallC c) (hn : l.length ≤ 1048576) (hu : Sl w vu U.length 1 (U.map .string)) (hun : U.length ≤ 1048576)
  (hU : (readW l).1 = 0 → ∀ u ∈ U, (getK (readW l).2 u).isSome = true) :
  Calls Tryz.prog 8 #[va, vu] w (OrderBy w l U) := by
 have HRD := hid (readwd_any va l w hl hf hsm hn)
 have HU := hid hU
 have HSU := hid hu
 obtain ⟨al, cl, rfl⟩ := hl.val
 obtain ⟨au, cu, rfl⟩ := hu.val
 clear hl hf hsm hn hu hU
 go_enter Tryz.func8, Tryz.ntmps8
 go_wp2_with fail
 refine HRD.out.mono ?_
 rintro e w1 ⟨hb1, h1⟩
 have HB1 := hid hb1
 clear hb1
 by_cases h0 : (readW l).1 = 0
 ·rw [if_pos h0] at h1
  obtain ⟨rfl, hwd⟩ := h1
  obtain ⟨W, hW⟩ : ∃ W, (readW l).2 = W := ⟨_, rfl⟩
  rw [hW] at hwd
  have HUI : Hid (∀ u ∈ U, (getK W u).isSome = true) := hid (by rw [← hW]; exact HU.out h0)
  have HCL : Hid (Closed W) := hid (read_closed (by rw [← hW, ← h0]))
  have HW1 := hid hwd
  have HFIN : Hid (∀ e w', OrderBy w l U e w' ↔ (Below w.heap.size w w' ∧ ∃ v, e = .returned (.tuple #[v, .nilIface]) ∧ Sl w' v (orderU W U U.length).length 1 ((orderU W U U.length).map .string))) := hid (fun e w' => by unfold OrderBy; rw [if_pos h0, hW])
  have HOL : Hid (∀ i, i ≤ U.length → (orderU W U i).length ≤ 12) := hid (fun i hi => by
   have h1 := orderU_len HCL.out HUI.out hi
   obtain ⟨k1, k2⟩ := read_inv (l := l) (W := W) (by rw [← hW, ← h0])
   have h2 := load_len k1
   have h3 : firstW.length = 2 := rfl
   omega)
  obtain ⟨b, hb⟩ : ∃ b, w.heap.size = b := ⟨_, rfl⟩
  rw [hb] at HW1
  clear HU h0 hW hwd HRD
  rw [hb]
  clear hb
  go_wp2_with fail
  go_loopw [28] (fun v wr => ∃ i : Nat, i ≤ U.length ∧ v = .int .i64 (i : Int) ∧ Hid (Below w1.heap.size w1 wr)) (fun v _ => U.length - (intOf v).toNat)
  case atStart => exact ⟨0, Nat.zero_le _, rfl, hid (Below.refl _ _)⟩
  case round =>
   obtain ⟨i, hi, rfl, HBR⟩ := hrel
   have hi0 : (0 : Int) ≤ (i : Int) := by omega
   obtain ⟨wb, hwb⟩ : ∃ wb, wb = wr := ⟨_, rfl⟩
   subst hwb
   by_cases hlt : i < U.length
   ·have hi1 : (i : Int) < (U.length : Int) := by omega
    obtain ⟨bb, off, hbo, hd0⟩ := text_at ((HSU.out.below HB1.out).below HBR.out) hlt
    subst hbo
    have HG := hid (HUI.out _ (List.getElem_mem hlt))
    generalize U[i] = u at hd0 HG
    obtain ⟨q1, r1, a1, d1, a2, d2, a3, d3, hsh, _, _⟩ := cls_shape (HW1.out.at_.below HBR.out) u
    have hlk := world_look_ok (HW1.out.at_.below HBR.out) u
    rw [hsh, HG.out] at hlk
    obtain ⟨n1, hn1⟩ : ∃ n, (cAt W u).faces.length = n := ⟨_, rfl⟩
    obtain ⟨n2, hn2⟩ : ∃ n, (cAt W u).fields.length = n := ⟨_, rfl⟩
    obtain ⟨n3, hn3⟩ : ∃ n, (cAt W u).mets.length = n := ⟨_, rfl⟩
    obtain ⟨fc, hfc⟩ : ∃ n, (cAt W u).face = n := ⟨_, rfl⟩
    rw [hn1, hn2, hn3, hfc] at hlk
    clear hsh hn1 hn2 hn3 hfc
    go_wp2_with fail
    go_roundw
    case rel => exact ⟨i + 1, by omega, by simp, hid (HBR.out.alloc HBR.out.size _)⟩
    case measure => simp [intOf]; omega
   ·obtain rfl : i = U.length := by omega
    obtain ⟨W2, hW2⟩ : ∃ W2, wb.alloc (.cells #[.string { data := #[79, 98, 106, 101, 99, 116] }] 9) = W2 := ⟨_, rfl⟩
    have HO0 : Hid (Out wb W2 9 1 (.slice (some ⟨wb.heap.size, 0, none⟩) 1 1) (orderU W U 0).length ((orderU W U 0).map .string)) := hid (hW2 ▸ out_one (Below.refl _ _) 9 (.string objB))
    have HWB := hid (HW1.out.below HBR.out)
    have HSB := hid ((HSU.out.below HB1.out).below HBR.out)
    have HBB := hid (HB1.out.trans (HBR.out.mono HB1.out.size))
    clear hlt hi
    go_wp2_with fail
    clear hW2
    go_loopw [12, 45] (fun v u wr => ∃ i : Nat, i ≤ U.length ∧ u = .int .i64 (i : Int) ∧ Hid (Out wb wr 9 1 v (orderU W U i).length ((orderU W U i).map .string))) (fun _ u _ => U.length - (intOf u).toNat)
    case atStart => exact ⟨0, Nat.zero_le _, rfl, HO0⟩
    case round =>
     obtain ⟨i, hi, rfl, HO⟩ := hrel
     have hi0 : (0 : Int) ≤ (i : Int) := by omega
     obtain ⟨wc, hwc⟩ : ∃ wc, wc = wr := ⟨_, rfl⟩
     subst hwc
     obtain ⟨ao, co, hvo⟩ := HO.out.sl.val
     subst hvo
     by_cases hlt : i < U.length
     ·have hi1 : (i : Int) < (U.length : Int) := by omega
      obtain ⟨bb, off, hbo, hd0⟩ := text_at (HSB.out.below HO.out.below) hlt
      subst hbo
      have HG := hid (HUI.out _ (List.getElem_mem hlt))
      have HST := hid (orderU_step (W := W) hlt)
      have HLN := hid (HOL.out (i + 1) hlt)
      generalize U[i] = u at hd0 HG HST
      obtain ⟨hln, hll⟩ := HWB.out.line u
      have HL := hid (line_any W b u (lineOf W u) wc (HWB.out.at_.below HO.out.below) hln (by omega))
      obtain ⟨L, hL⟩ : ∃ L, lineOf W u = L := ⟨_, rfl⟩
      rw [hL] at HST HL hll
      have HLL := hid hll
      clear hln hL hll
      go_wp2_with fail
      refine HL.out.mono ?_
      rintro e w3 ⟨vl, rfl, ho3⟩
      have HR3 := hid (revs_any ho3 (by have := HLL.out; omega))
      obtain ⟨a3, c3, hv3⟩ := ho3.sl.val
      subst hv3
      have HAP : Hid (∀ g, (Value.slice a3 L.length c3).ownBlock = some g → ¬ (Value.slice ao (orderU W U i).length co).ownBlock = some g) := hid (fun g h1 h2 => by
       have := (ho3.own.lt g h1).1
       have := (HO.out.own.lt g h2).2
       omega)
      clear ho3
      go_wp2_with fail
      refine HR3.out.mono ?_
      rintro e w4 ⟨rfl, hs4, hb4⟩
      obtain ⟨R, hR⟩ : ∃ R, L.reverse = R := ⟨_, rfl⟩
      have hRL : L.length = R.length := by rw [← hR, List.length_reverse]
      rw [hR] at hs4 HST
      rw [hRL] at hs4 HAP
      rw [hRL]
      have HSR := hid hs4
      obtain ⟨O, hO⟩ : ∃ O, orderU W U i = O := ⟨_, rfl⟩
      rw [hO] at HO HST HAP
      have HST2 : Hid ((addAll O R).length ≤ 12) := hid (by rw [← HST.out]; exact HLN.out)
      have HO4 : Hid (Out wb w4 9 1 (.slice ao O.length co) (addAll O (R.take 0)).length ((addAll O (R.take 0)).map .string)) := hid (HO.out.later hb4)
      have hRn : R.length ≤ 13000001 := by have := HLL.out; omega
      rw [hO]
      clear hR hRL hO hs4 hb4 HR3 HL HO HLL
      go_wp2_with fail
      go_loopw [12, 56] (fun v u wr => ∃ k : Nat, k ≤ R.length ∧ u = .int .i64 (k : Int) ∧ Hid (Out wb wr 9 1 v (addAll O (R.take k)).length ((addAll O (R.take k)).map .string)) ∧ Hid (Keeps (fun g => (Value.slice ao O.length co).ownBlock = some g) w4 wr) ∧ Hid (v.ownBlock = (Value.slice ao O.length co).ownBlock ∨ ∃ j, v.ownBlock = some j ∧ w4.heap.size ≤ j)) (fun _ u _ => R.length - (intOf u).toNat)
      case atStart => exact ⟨0, Nat.zero_le _, rfl, HO4, hid (Keeps.refl _ _), hid (.inl rfl)⟩
      case round =>
       obtain ⟨k, hk, rfl, HOk, HKk, HAk⟩ := hrel
       have hk0 : (0 : Int) ≤ (k : Int) := by omega
       obtain ⟨wd, hwd⟩ : ∃ wd, wd = wr := ⟨_, rfl⟩
       subst hwd
       obtain ⟨ak, ck, hvk⟩ := HOk.out.sl.val
       subst hvk
       by_cases hltk : k < R.length
       ·have hk1 : (k : Int) < (R.length : Int) := by omega
        obtain ⟨b3, o3, hb3, hd3⟩ := text_at (sl_keeps HSR.out HKk.out HAP.out) hltk
        subst hb3
        have HTK := hid (addAll_take (out := O) hltk)
        have HIN := hid (hasText_any ak _ ck (addAll O (R.take k)) R[k] wd HOk.out.sl (by
         have h1 : (addAll O (R.take k)).length ≤ (addAll O R).length := by
          have e : R = R.take k ++ R.drop k := (List.take_append_drop k R).symm
          rw [e, addAll_append, ← e]
          obtain ⟨r, hr⟩ := add_pre (R.drop k) (addAll O (R.take k))
          rw [hr, List.length_append]
          omega
         have := HST2.out
         omega))
        have HAL : Hid ((addAll O (R.take k)).length ≤ 12) := hid (by
         have h1 : (addAll O (R.take k)).length ≤ (addAll O R).length := by
          have e : R = R.take k ++ R.drop k := (List.take_append_drop k R).symm
          rw [e, addAll_append, ← e]
          obtain ⟨r, hr⟩ := add_pre (R.drop k) (addAll O (R.take k))
          rw [hr, List.length_append]
          omega
         have := HST2.out
         omega)
        obtain ⟨T, hT⟩ : ∃ T, addAll O (R.take k) = T := ⟨_, rfl⟩
        rw [hT] at HTK HIN HAL HOk HAk
        rw [hT]
        generalize R[k] = y at hd3 HTK HIN
        clear hT
        have hal : T.length ≤ 12 := HAL.out
        cases hin : inTexts y T with
        | true =>
         rw [hin] at HIN HTK
         have HT2 : Hid (addAll O (R.take (k + 1)) = T) := hid (by rw [HTK.out, if_pos rfl])
         clear hin
         go_wp2_with fail
         refine HIN.out.mono ?_
         rintro e w6 ⟨rfl, rfl⟩
         go_wp2_with fail
         go_roundw
         case rel => exact ⟨k + 1, by omega, by simp, by rw [HT2.out]; exact HOk, HKk, HAk⟩
         case measure => simp [intOf]; omega
        | false =>
         rw [hin] at HIN HTK
         have HT2 : Hid (addAll O (R.take (k + 1)) = T ++ [y]) := hid (by rw [HTK.out, if_neg (by decide)])
         clear hin
         go_wp2_with fail
         refine HIN.out.mono ?_
         rintro e w6 ⟨rfl, rfl⟩
         go_wp2_with (at_builtin; refine wpList_append_lit_at wb _ _ rfl _ _ 24 rfl 9 (.string { data := #[] }) 1 16 1 Tryz.underlying24 infoS rfl (by decide) _ _ _ HOk.out rfl rfl rfl (by simp [Value.oneCell']) (by omega) (by omega) ?_)
         intro v2 w2 ho2 hg2 hat2
         have HO2 := hid ho2
         have HK2 := hid (HKk.out.then ((Keeps.grown hg2).mono fun g _ hg => hg.symm) (fun g hg he => by
          rcases HAk.out with q | ⟨j, q, hj⟩
          ·rw [← q]; exact he
          ·rw [q] at he
           have := Option.some.inj he
           omega))
         have HA2 : Hid (v2.ownBlock = (Value.slice ao O.length co).ownBlock ∨ ∃ j, v2.ownBlock = some j ∧ w4.heap.size ≤ j) := hid (by
          rcases hat2 with q | ⟨j, q, hj⟩
          ·rw [q]; exact HAk.out
          ·exact .inr ⟨j, q, by have := HKk.out.size; omega⟩)
         clear ho2 hg2 hat2
         go_wp2_with fail
         go_roundw
         case rel => exact ⟨k + 1, by omega, by simp, hid (by rw [HT2.out, List.length_append, List.map_append]; exact HO2.out), HK2, HA2⟩
         case measure => simp [intOf]; omega
       ·obtain rfl : k = R.length := by omega
        have HFO : Hid (addAll O (R.take R.length) = orderU W U (i + 1)) := hid (by rw [HST.out, List.take_length])
        rw [HFO.out] at HOk
        clear hltk
        rw [HFO.out]
        go_wp2_with fail
        go_roundw
        case rel => exact ⟨i + 1, by omega, by simp, HOk⟩
        case measure => simp [intOf]; omega
     ·obtain rfl : i = U.length := by omega
      go_wp2_with fail
      go_ret2
      exact (HFIN.out _ _).2 ⟨HBB.out.trans (HO.out.below.mono HBB.out.size), _, rfl, HO.out.sl⟩
 ·rw [if_neg h0] at h1
  subst h1
  obtain ⟨z, hz⟩ : ∃ z, (readW l).1 = z := ⟨_, rfl⟩
  have HZ : Hid (∀ e w', Below w.heap.size w w' → e = .returned (.tuple #[.slice none 0 0, errVal z]) → OrderBy w l U e w') := hid (fun e w' hb he => ⟨hb, by rw [if_neg h0, hz]; exact he⟩)
  rw [hz] at h0 ⊢
  have HEV : Hid (errVal z = .iface 53 (.int .i64 z)) := hid (by unfold errVal; rw [if_neg h0])
  rw [HEV.out]
  clear h0 hz
  go_wp2_with fail
  go_ret2
  exact HZ.out _ _ HB1.out (by rw [HEV.out]; rfl)
theorem cls_atn {w : World} {a : Option Addr} {c n : Nat} {l : List CV} (hn : l.length = n) (h : Clss w (.slice a n c) l) {k : Nat} (hk : k < n) :
  ∃ bb off, a = some ⟨bb, off, none⟩ ∧ w.cell? ⟨bb, off + k * 6, none⟩ = some (.string (l[k]'(hn ▸ hk)).nm) ∧ w.cell? ⟨bb, off + k * 6 + 1, none⟩ = some (.string (l[k]'(hn ▸ hk)).sup) := by
 subst hn
 obtain ⟨bb, off, ha, hc⟩ := row_at (cells := CV.cells) (sz := 6) (fun _ => rfl) h.sl hk (by decide)
 refine ⟨bb, off, ha, ?_, ?_⟩
 ·have := hc 0 (by decide); rw [Nat.add_zero] at this; exact this
 ·have := hc 1 (by decide); rw [← Nat.add_assoc] at this; exact this
theorem topstarts_any (va : Value) (l : List CV) (w : World) (hl : Clss w va l) (hf : FormsAt w) (hsm : ∀ c ∈ l, SmallC c) (hn : l.length ≤ 1048576) :
  Calls Tryz.prog 3 #[va] w fun e w' => e = .returned (.bool true) ∧ Below w.heap.size w w' := by
 have HL := hid hl; have HF := hid hf; have HSM := hid hsm
 obtain ⟨al, cl, rfl⟩ := hl.val
 obtain ⟨n, hnn⟩ : ∃ n, l.length = n := ⟨_, rfl⟩
 have HN := hid hnn
 rw [hnn] at hn HL ⊢
 clear hl hf hsm hnn
 go_enter Tryz.func3, Tryz.ntmps3
 go_wp2_with fail
 refine (five_any w HF.out).mono ?_
 rintro e w1 ⟨rfl, hb1⟩
 have HB1 := hid hb1
 clear hb1
 have HO1 := hid (Out.nil w1 9 1)
 go_wp2_with fail
 go_loopw [4, 5] (fun v4 v5 wr => ∃ k : Nat, k ≤ n ∧ v5 = .int .i64 (k : Int) ∧ Hid (Out w1 wr 9 1 v4 k (((l.take k).map CV.nm).map .string))) (fun _ v _ => n - (intOf v).toNat)
 case atStart => exact ⟨0, Nat.zero_le _, rfl, HO1⟩
 case round =>
  obtain ⟨k, hk, rfl, HO⟩ := hrel
  have hk0 : (0 : Int) ≤ (k : Int) := by omega
  have HBR := hid (HB1.out.trans (HO.out.below.mono HB1.out.size))
  obtain ⟨aO, cO, hvO⟩ := HO.out.sl.val
  subst hvO
  by_cases hlt : k < n
  ·have hk1 : (k : Int) < (n : Int) := by omega
   have hkl : k < l.length := by rw [HN.out]; exact hlt
   obtain ⟨bb, off, hab, h0, _⟩ := cls_atn HN.out (HL.out.below HBR.out) hlt
   subst hab
   have HTK : Hid (((l.take (k + 1)).map CV.nm).map Value.string = ((l.take k).map CV.nm).map .string ++ [.string l[k].nm]) := hid (by rw [List.take_succ_eq_append_getElem hkl, List.map_append, List.map_append]; rfl)
   generalize l[k] = x at h0 HTK
   go_wp2_with (at_builtin; refine wpList_append_lit_at w1 wr _ rfl _ _ 24 rfl 9 (.string { data := #[] }) 1 16 1 Tryz.underlying24 infoS rfl (by decide) _ _ _ HO.out rfl rfl rfl (by simp [Value.oneCell']) (by omega) (by omega) ?_)
   intro v2 w2 ho2 hg2 hat2
   have HO2 : Hid (Out w1 w2 9 1 v2 (k + 1) (((l.take (k + 1)).map CV.nm).map .string)) := hid (by rw [HTK.out]; simpa [List.map_take, List.map_map] using ho2)
   clear ho2 hg2 hat2 h0
   go_wp2_with fail
   go_roundw
   case rel => exact ⟨k + 1, by omega, by simp, HO2⟩
   case measure => simp [intOf]; omega
  ·obtain rfl : n = k := by omega
   obtain ⟨U, hU⟩ : ∃ U, l.map CV.nm = U := ⟨_, rfl⟩
   have HUL : Hid (U.length = n) := hid (by rw [← hU, List.length_map]; exact HN.out)
   have HSU : Hid (Sl wr (.slice aO n cO) n 1 (U.map .string)) := hid (by have := HO.out.sl; rw [List.take_of_length_le (by rw [HN.out]; exact Nat.le_refl _), hU] at this; exact this)
   have HU := hid hU
   clear hU
   go_wp2_with fail
   refine (order_any (.slice al n cl) (.slice aO n cO) l U wr (HL.out.below HBR.out) (HF.out.below HBR.out) HSM.out (by rw [HN.out]; exact hn) (by rw [HUL.out]; exact HSU.out) (by rw [HUL.out]; exact hn) (fun h0 u hu => ?_)).mono ?_
   ·rw [← HU.out] at hu
    obtain ⟨c, hc, rfl⟩ := List.mem_map.1 hu
    rw [((read_classes (l := l) (W := (readW l).2) (by rw [← h0])).2 c hc).1]; rfl
   rintro e w3 ⟨hb3, h3⟩
   have HB3 := hid (HBR.out.trans (hb3.mono HBR.out.size))
   by_cases h0 : (readW l).1 = 0
   ·rw [if_pos h0] at h3
    obtain ⟨v3, rfl, hs3⟩ := h3
    obtain ⟨W, hW⟩ : ∃ W, (readW l).2 = W := ⟨_, rfl⟩
    have hr : readW l = (0, W) := by rw [← hW, ← h0]
    rw [hW] at hs3
    obtain ⟨O, hO⟩ : ∃ O, orderU W U U.length = O := ⟨_, rfl⟩
    rw [hO] at hs3
    have HOK := hid (starts_ok hr (out := O) (by rw [HU.out]; exact hO))
    obtain ⟨q, hq⟩ : ∃ q, O.length = q := ⟨_, rfl⟩
    have HQ := hid hq
    have HQ8 : Hid (q ≤ 1048576) := hid (by
     have h1 := orderU_len (read_closed hr) (U := U) (fun u hu => by
      rw [← HU.out] at hu
      obtain ⟨c, hc, rfl⟩ := List.mem_map.1 hu
      rw [((read_classes hr).2 c hc).1]; rfl) (Nat.le_refl U.length)
     obtain ⟨k1, k2⟩ := read_inv hr
     have h2 := load_len k1
     have h3 : firstW.length = 2 := rfl
     rw [hO, hq] at h1
     omega)
    obtain ⟨a3, c3, hv3⟩ := hs3.val
    rw [hq] at hv3 hs3
    subst hv3
    have hq8 := HQ8.out
    have hq0 : (0 : Int) ≤ (q : Int) := by omega
    have HS3 := hid hs3
    clear hs3 hb3 hq hW hO hr h0
    go_wp2_with fail
    go_loopw [8] (fun v wr => ∃ i : Nat, i ≤ n ∧ v = .int .i64 (i : Int) ∧ Hid (Below w3.heap.size w3 wr)) (fun v _ => n - (intOf v).toNat)
    case atStart => exact ⟨0, Nat.zero_le _, rfl, hid (Below.refl _ _)⟩
    case round =>
     obtain ⟨i, hi, rfl, HBI⟩ := hrel
     have hi0 : (0 : Int) ≤ (i : Int) := by omega
     obtain ⟨wb, hwb⟩ : ∃ wb, wb = wr := ⟨_, rfl⟩
     subst hwb
     by_cases hlt2 : i < n
     ·have hi1 : (i : Int) < (n : Int) := by omega
      have hil : i < l.length := by rw [HN.out]; exact hlt2
      have HXI := hid (HOK.out.2.2 _ (List.getElem_mem hil))
      obtain ⟨bc, oc, hac, hx0, hx1⟩ := cls_atn HN.out (HL.out.below (HB3.out.trans (HBI.out.mono HB3.out.size))) hlt2
      subst hac
      generalize l[i] = x at hx0 hx1 HXI
      have HXC : Hid (∀ u, Below wb.heap.size wb u → u.cell? ⟨bc, oc + i * 6, none⟩ = some (.string x.nm) ∧ u.cell? ⟨bc, oc + i * 6 + 1, none⟩ = some (.string x.sup)) := hid (fun u hu => ⟨by rw [hu.cell (p := ⟨bc, oc + i * 6, none⟩) (World.block_lt_of_cell? wb _ hx0)]; exact hx0, by rw [hu.cell (p := ⟨bc, oc + i * 6 + 1, none⟩) (World.block_lt_of_cell? wb _ hx1)]; exact hx1⟩)
      clear hx0 hx1
      go_wp2_with fail
      go_loopw [9, 10, 11, 12] (fun v9 v10 v11 v12 wr => ∃ k : Nat, k ≤ q ∧ v12 = .int .i64 (k : Int) ∧ v9 = .int .i64 (lastI x.nm O k) ∧ v10 = .int .i64 (lastI x.sup O k) ∧ v11 = .int .i64 (timesI x.nm O k) ∧ Hid (Below wb.heap.size wb wr)) (fun _ _ _ v _ => q - (intOf v).toNat)
      case atStart => exact ⟨0, Nat.zero_le _, rfl, rfl, rfl, rfl, hid (Below.refl _ _)⟩
      case round =>
       obtain ⟨k, hk, rfl, rfl, rfl, rfl, HBK⟩ := hrel
       have hk0 : (0 : Int) ≤ (k : Int) := by omega
       obtain ⟨wc, hwc⟩ : ∃ wc, wc = wr := ⟨_, rfl⟩
       subst hwc
       by_cases hlt3 : k < q
       ·have hk1 : (k : Int) < (q : Int) := by omega
        obtain ⟨bo, oo, hao, hy⟩ := text_atn HQ.out (HS3.out.below (HBI.out.trans (HBK.out.mono HBI.out.size))) hlt3
        subst hao
        have hkl : k < O.length := by rw [HQ.out]; exact hlt3
        have HL1 := hid (lastI_step (x := x.nm) hkl)
        have HL2 := hid (lastI_step (x := x.sup) hkl)
        have HL3 := hid (timesI_step (x := x.nm) hkl)
        generalize O[k] = y at hy HL1 HL2 HL3
        have HXK : Hid (∀ u, Below wc.heap.size wc u → u.cell? ⟨bo, oo + k, none⟩ = some (.string y) ∧ u.cell? ⟨bc, oc + i * 6, none⟩ = some (.string x.nm) ∧ u.cell? ⟨bc, oc + i * 6 + 1, none⟩ = some (.string x.sup)) := hid (fun u hu => ⟨by rw [hu.cell (p := ⟨bo, oo + k, none⟩) (World.block_lt_of_cell? wc _ hy)]; exact hy, (HXC.out u (HBK.out.trans (hu.mono HBK.out.size))).1, (HXC.out u (HBK.out.trans (hu.mono HBK.out.size))).2⟩)
        clear hy
        obtain ⟨_, _, t0, t1⟩ := last_range x.nm O k
        by_cases h1 : y = x.nm
        ·by_cases h2 : y = x.sup
         ·have e1 := str_eqb h1
          have e2 := str_eqb h2
          have H1 := hid h1
          have H2 := hid h2
          clear h1 h2
          go_wp2_with fail
          refine wp_region_ext_tail 9 [] trivial (by kernel_rfl) (by kernel_rfl) ?_
          refine zgc 1 ?_
          go_frame
          refine zgc 2 ?_
          go_frame
          refine wpG_calc (v := .pointer (some ⟨bo, oo + k, none⟩)) 3 rfl rfl rfl (fun u => by first | (go_simp; done) | (go_simp; rfl) | (go_simp; omega)) ?_
          go_frame
          refine wpG_read 4 rfl rfl (.string y) rfl ?_ ?_
          ·intro u hu hh
           have q := (HXK.out u hu).1
           go_simp
          go_frame
          refine zgc 5 ?_
          go_frame
          refine zgc 6 ?_
          go_frame
          refine wpG_calc (v := .pointer (some ⟨bc, oc + i * 6, none⟩)) 7 rfl rfl rfl (fun u => by first | (go_simp; done) | (go_simp; rfl) | (go_simp; omega)) ?_
          go_frame
          refine wpG_calc (v := .pointer (some ⟨bc, oc + i * 6, none⟩)) 8 rfl rfl rfl (fun u => by first | (go_simp; done) | (go_simp; rfl) | (go_simp; omega)) ?_
          go_frame
          refine wpG_read 9 rfl rfl (.string x.nm) rfl ?_ ?_
          ·intro u hu hh
           have q := (HXK.out u hu).2.1
           go_simp
          go_frame
          refine wpG_nil fun wA hbA hF => ?_
          have HBA := hid hbA
          have HXK2 := hid (fun (u : World) (hu : Below wA.heap.size wA u) => HXK.out u (HBA.out.trans (hu.mono HBA.out.size)))
          clear hbA hF HXK
          have HXK := HXK2
          go_wp2_with fail
          refine wp_region_ext_tail 9 [] trivial (by kernel_rfl) (by kernel_rfl) ?_
          refine zgc 1 ?_
          go_frame
          refine zgc 2 ?_
          go_frame
          refine wpG_calc (v := .pointer (some ⟨bo, oo + k, none⟩)) 3 rfl rfl rfl (fun u => by first | (go_simp; done) | (go_simp; rfl) | (go_simp; omega)) ?_
          go_frame
          refine wpG_read 4 rfl rfl (.string y) rfl ?_ ?_
          ·intro u hu hh
           have q := (HXK.out u hu).1
           go_simp
          go_frame
          refine zgc 5 ?_
          go_frame
          refine zgc 6 ?_
          go_frame
          refine wpG_calc (v := .pointer (some ⟨bc, oc + i * 6, none⟩)) 7 rfl rfl rfl (fun u => by first | (go_simp; done) | (go_simp; rfl) | (go_simp; omega)) ?_
          go_frame
          refine wpG_calc (v := .pointer (some ⟨bc, oc + i * 6 + 1, none⟩)) 8 rfl rfl rfl (fun u => by first | (go_simp; done) | (go_simp; rfl) | (go_simp; omega)) ?_
          go_frame
          refine wpG_read 9 rfl rfl (.string x.sup) rfl ?_ ?_
          ·intro u hu hh
           have q := (HXK.out u hu).2.2
           go_simp
          go_frame
          refine wpG_nil fun wB hbB hF => ?_
          have HBB := hid (HBK.out.trans ((HBA.out.trans (hbB.mono HBA.out.size)).mono HBK.out.size))
          clear hbB hF
          go_wp2_with fail
          go_roundw
          case rel => exact ⟨k + 1, by omega, by simp, by rw [HL1.out, if_pos H1.out], by rw [HL2.out, if_pos H2.out], by rw [HL3.out, if_pos H1.out], HBB⟩
          case measure => simp [intOf]; omega
         ·have e1 := str_eqb h1
          have e2 := str_neb h2
          have H1 := hid h1
          have H2 := hid h2
          clear h1 h2
          go_wp2_with fail
          refine wp_region_ext_tail 9 [] trivial (by kernel_rfl) (by kernel_rfl) ?_
          refine zgc 1 ?_
          go_frame
          refine zgc 2 ?_
          go_frame
          refine wpG_calc (v := .pointer (some ⟨bo, oo + k, none⟩)) 3 rfl rfl rfl (fun u => by first | (go_simp; done) | (go_simp; rfl) | (go_simp; omega)) ?_
          go_frame
          refine wpG_read 4 rfl rfl (.string y) rfl ?_ ?_
          ·intro u hu hh
           have q := (HXK.out u hu).1
           go_simp
          go_frame
          refine zgc 5 ?_
          go_frame
          refine zgc 6 ?_
          go_frame
          refine wpG_calc (v := .pointer (some ⟨bc, oc + i * 6, none⟩)) 7 rfl rfl rfl (fun u => by first | (go_simp; done) | (go_simp; rfl) | (go_simp; omega)) ?_
          go_frame
          refine wpG_calc (v := .pointer (some ⟨bc, oc + i * 6, none⟩)) 8 rfl rfl rfl (fun u => by first | (go_simp; done) | (go_simp; rfl) | (go_simp; omega)) ?_
          go_frame
          refine wpG_read 9 rfl rfl (.string x.nm) rfl ?_ ?_
          ·intro u hu hh
           have q := (HXK.out u hu).2.1
           go_simp
          go_frame
          refine wpG_nil fun wA hbA hF => ?_
          have HBA := hid hbA
          have HXK2 := hid (fun (u : World) (hu : Below wA.heap.size wA u) => HXK.out u (HBA.out.trans (hu.mono HBA.out.size)))
          clear hbA hF HXK
          have HXK := HXK2
          go_wp2_with fail
          refine wp_region_ext_tail 9 [] trivial (by kernel_rfl) (by kernel_rfl) ?_
          refine zgc 1 ?_
          go_frame
          refine zgc 2 ?_
          go_frame
          refine wpG_calc (v := .pointer (some ⟨bo, oo + k, none⟩)) 3 rfl rfl rfl (fun u => by first | (go_simp; done) | (go_simp; rfl) | (go_simp; omega)) ?_
          go_frame
          refine wpG_read 4 rfl rfl (.string y) rfl ?_ ?_
          ·intro u hu hh
           have q := (HXK.out u hu).1
           go_simp
          go_frame
          refine zgc 5 ?_
          go_frame
          refine zgc 6 ?_
          go_frame
          refine wpG_calc (v := .pointer (some ⟨bc, oc + i * 6, none⟩)) 7 rfl rfl rfl (fun u => by first | (go_simp; done) | (go_simp; rfl) | (go_simp; omega)) ?_
          go_frame
          refine wpG_calc (v := .pointer (some ⟨bc, oc + i * 6 + 1, none⟩)) 8 rfl rfl rfl (fun u => by first | (go_simp; done) | (go_simp; rfl) | (go_simp; omega)) ?_
          go_frame
          refine wpG_read 9 rfl rfl (.string x.sup) rfl ?_ ?_
          ·intro u hu hh
           have q := (HXK.out u hu).2.2
           go_simp
          go_frame
          refine wpG_nil fun wB hbB hF => ?_
          have HBB := hid (HBK.out.trans ((HBA.out.trans (hbB.mono HBA.out.size)).mono HBK.out.size))
          clear hbB hF
          go_wp2_with fail
          go_roundw
          case rel => exact ⟨k + 1, by omega, by simp, by rw [HL1.out, if_pos H1.out], by rw [HL2.out, if_neg H2.out], by rw [HL3.out, if_pos H1.out], HBB⟩
          case measure => simp [intOf]; omega
        ·by_cases h2 : y = x.sup
         ·have e1 := str_neb h1
          have e2 := str_eqb h2
          have H1 := hid h1
          have H2 := hid h2
          clear h1 h2
          go_wp2_with fail
          refine wp_region_ext_tail 9 [] trivial (by kernel_rfl) (by kernel_rfl) ?_
          refine zgc 1 ?_
          go_frame
          refine zgc 2 ?_
          go_frame
          refine wpG_calc (v := .pointer (some ⟨bo, oo + k, none⟩)) 3 rfl rfl rfl (fun u => by first | (go_simp; done) | (go_simp; rfl) | (go_simp; omega)) ?_
          go_frame
          refine wpG_read 4 rfl rfl (.string y) rfl ?_ ?_
          ·intro u hu hh
           have q := (HXK.out u hu).1
           go_simp
          go_frame
          refine zgc 5 ?_
          go_frame
          refine zgc 6 ?_
          go_frame
          refine wpG_calc (v := .pointer (some ⟨bc, oc + i * 6, none⟩)) 7 rfl rfl rfl (fun u => by first | (go_simp; done) | (go_simp; rfl) | (go_simp; omega)) ?_
          go_frame
          refine wpG_calc (v := .pointer (some ⟨bc, oc + i * 6, none⟩)) 8 rfl rfl rfl (fun u => by first | (go_simp; done) | (go_simp; rfl) | (go_simp; omega)) ?_
          go_frame
          refine wpG_read 9 rfl rfl (.string x.nm) rfl ?_ ?_
          ·intro u hu hh
           have q := (HXK.out u hu).2.1
           go_simp
          go_frame
          refine wpG_nil fun wA hbA hF => ?_
          have HBA := hid hbA
          have HXK2 := hid (fun (u : World) (hu : Below wA.heap.size wA u) => HXK.out u (HBA.out.trans (hu.mono HBA.out.size)))
          clear hbA hF HXK
          have HXK := HXK2
          go_wp2_with fail
          refine wp_region_ext_tail 9 [] trivial (by kernel_rfl) (by kernel_rfl) ?_
          refine zgc 1 ?_
          go_frame
          refine zgc 2 ?_
          go_frame
          refine wpG_calc (v := .pointer (some ⟨bo, oo + k, none⟩)) 3 rfl rfl rfl (fun u => by first | (go_simp; done) | (go_simp; rfl) | (go_simp; omega)) ?_
          go_frame
          refine wpG_read 4 rfl rfl (.string y) rfl ?_ ?_
          ·intro u hu hh
           have q := (HXK.out u hu).1
           go_simp
          go_frame
          refine zgc 5 ?_
          go_frame
          refine zgc 6 ?_
          go_frame
          refine wpG_calc (v := .pointer (some ⟨bc, oc + i * 6, none⟩)) 7 rfl rfl rfl (fun u => by first | (go_simp; done) | (go_simp; rfl) | (go_simp; omega)) ?_
          go_frame
          refine wpG_calc (v := .pointer (some ⟨bc, oc + i * 6 + 1, none⟩)) 8 rfl rfl rfl (fun u => by first | (go_simp; done) | (go_simp; rfl) | (go_simp; omega)) ?_
          go_frame
          refine wpG_read 9 rfl rfl (.string x.sup) rfl ?_ ?_
          ·intro u hu hh
           have q := (HXK.out u hu).2.2
           go_simp
          go_frame
          refine wpG_nil fun wB hbB hF => ?_
          have HBB := hid (HBK.out.trans ((HBA.out.trans (hbB.mono HBA.out.size)).mono HBK.out.size))
          clear hbB hF
          go_wp2_with fail
          go_roundw
          case rel => exact ⟨k + 1, by omega, by simp, by rw [HL1.out, if_neg H1.out], by rw [HL2.out, if_pos H2.out], by rw [HL3.out, if_neg H1.out], HBB⟩
          case measure => simp [intOf]; omega
         ·have e1 := str_neb h1
          have e2 := str_neb h2
          have H1 := hid h1
          have H2 := hid h2
          clear h1 h2
          go_wp2_with fail
          refine wp_region_ext_tail 9 [] trivial (by kernel_rfl) (by kernel_rfl) ?_
          refine zgc 1 ?_
          go_frame
          refine zgc 2 ?_
          go_frame
          refine wpG_calc (v := .pointer (some ⟨bo, oo + k, none⟩)) 3 rfl rfl rfl (fun u => by first | (go_simp; done) | (go_simp; rfl) | (go_simp; omega)) ?_
          go_frame
          refine wpG_read 4 rfl rfl (.string y) rfl ?_ ?_
          ·intro u hu hh
           have q := (HXK.out u hu).1
           go_simp
          go_frame
          refine zgc 5 ?_
          go_frame
          refine zgc 6 ?_
          go_frame
          refine wpG_calc (v := .pointer (some ⟨bc, oc + i * 6, none⟩)) 7 rfl rfl rfl (fun u => by first | (go_simp; done) | (go_simp; rfl) | (go_simp; omega)) ?_
          go_frame
          refine wpG_calc (v := .pointer (some ⟨bc, oc + i * 6, none⟩)) 8 rfl rfl rfl (fun u => by first | (go_simp; done) | (go_simp; rfl) | (go_simp; omega)) ?_
          go_frame
          refine wpG_read 9 rfl rfl (.string x.nm) rfl ?_ ?_
          ·intro u hu hh
           have q := (HXK.out u hu).2.1
           go_simp
          go_frame
          refine wpG_nil fun wA hbA hF => ?_
          have HBA := hid hbA
          have HXK2 := hid (fun (u : World) (hu : Below wA.heap.size wA u) => HXK.out u (HBA.out.trans (hu.mono HBA.out.size)))
          clear hbA hF HXK
          have HXK := HXK2
          go_wp2_with fail
          refine wp_region_ext_tail 9 [] trivial (by kernel_rfl) (by kernel_rfl) ?_
          refine zgc 1 ?_
          go_frame
          refine zgc 2 ?_
          go_frame
          refine wpG_calc (v := .pointer (some ⟨bo, oo + k, none⟩)) 3 rfl rfl rfl (fun u => by first | (go_simp; done) | (go_simp; rfl) | (go_simp; omega)) ?_
          go_frame
          refine wpG_read 4 rfl rfl (.string y) rfl ?_ ?_
          ·intro u hu hh
           have q := (HXK.out u hu).1
           go_simp
          go_frame
          refine zgc 5 ?_
          go_frame
          refine zgc 6 ?_
          go_frame
          refine wpG_calc (v := .pointer (some ⟨bc, oc + i * 6, none⟩)) 7 rfl rfl rfl (fun u => by first | (go_simp; done) | (go_simp; rfl) | (go_simp; omega)) ?_
          go_frame
          refine wpG_calc (v := .pointer (some ⟨bc, oc + i * 6 + 1, none⟩)) 8 rfl rfl rfl (fun u => by first | (go_simp; done) | (go_simp; rfl) | (go_simp; omega)) ?_
          go_frame
          refine wpG_read 9 rfl rfl (.string x.sup) rfl ?_ ?_
          ·intro u hu hh
           have q := (HXK.out u hu).2.2
           go_simp
          go_frame
          refine wpG_nil fun wB hbB hF => ?_
          have HBB := hid (HBK.out.trans ((HBA.out.trans (hbB.mono HBA.out.size)).mono HBK.out.size))
          clear hbB hF
          go_wp2_with fail
          go_roundw
          case rel => exact ⟨k + 1, by omega, by simp, by rw [HL1.out, if_neg H1.out], by rw [HL2.out, if_neg H2.out], by rw [HL3.out, if_neg H1.out], HBB⟩
          case measure => simp [intOf]; omega
       ·obtain rfl : q = k := by omega
        have hxi := HXI.out
        rw [HQ.out] at hxi
        obtain ⟨z1, z2, z3⟩ := hxi
        rw [z1]
        have HB2I := hid (HBI.out.trans (HBK.out.mono HBI.out.size))
        generalize lastI x.nm O q = A9 at z3
        generalize lastI x.sup O q = A10 at z2 z3
        clear z1
        go_wp2_with fail
        go_roundw
        case rel => exact ⟨i + 1, by omega, by simp, HB2I⟩
        case measure => simp [intOf]; omega
     ·obtain rfl : n = i := by omega
      have ho1 := HOK.out.2.1
      rw [HQ.out, HN.out] at ho1
      have hq1 : (n : Int) + 1 ≤ (q : Int) := by omega
      have h0q : 0 < q := by omega
      obtain ⟨bo, oo, hao, hy⟩ := text_atn HQ.out (HS3.out.below HBI.out) h0q
      subst hao
      have hob : O[0]'(by rw [HQ.out]; exact h0q) = objB := (List.getElem?_eq_some_iff.1 HOK.out.1).2
      rw [hob, Nat.add_zero] at hy
      have HBE := hid (HB3.out.trans (HBI.out.mono HB3.out.size))
      have eo : (objB.toList == [79, 98, 106, 101, 99, 116]) = true := by rw [ByteArray.toList_eq]; rfl
      clear hob ho1
      go_wp2_with fail
      all_goals (go_ret; exact ⟨rfl, HBE.out⟩)
   ·rw [if_neg h0] at h3
    subst h3
    have hz : errVal (readW l).1 = .iface 53 (.int .i64 (readW l).1) := by unfold errVal; rw [if_neg h0]
    rw [hz]
    clear hz hb3
    go_wp2_with fail
    go_ret
    exact ⟨rfl, HB3.out⟩
end Go.Proofs.YtloonnfelgokmaaGreatDoor.worlds
