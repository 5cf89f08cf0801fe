/- Instructions as bytes: code.Encode. Conditions: the two tables lie in their variables; the instructions' texts are not long; their numbers are of 64 bits. -/
import Derived.Test.YtcbefaaipggakaaDoorTxtP
import Derived.Test.YtcbefaaipggakaaDoorOwn
import Derived.Lib.AppendStr
set_option linter.unusedSimpArgs false
set_option linter.unusedVariables false
namespace Go.Proofs.YtcbefaaipggakaaDoor.txts
open Go.RowKit Go.Proofs.YtcbefaaipggakaaDoor.lib Go.Proofs.YtcbefaaipggakaaDoor.errs Go.Proofs.YtcbefaaipggakaaDoor.names Go.Proofs.YtcbefaaipggakaaDoor.descs Go.Proofs.YtcbefaaipggakaaDoor.ins Go.Proofs.YtcbefaaipggakaaDoor.nums Go.Proofs.YtcbefaaipggakaaDoor.flows

theorem infoB : (Tryd.prog.info? 5).map (fun i => (i.zero, i.size, i.bytes)) = some (some (.int .u8 0), 1, 1) := by kernel_rfl
/-- 'append(out, s...)' of a text -/
theorem wpList_append_text (w0 W : World) {ops : Array Oper} {rest : List Oper} {o : Oper} {a : Act} {Q : Exit → Act → World → Prop} (hgd : o.guard = none) (sl x : Operand)
    (ho : o.op = .call { callee := .builtin .append, args := #[sl, x], argTypes := #[23, 9] })
    (v : Value) (n : Nat) (xs : List Value) (hout : Out w0 W 5 1 v n xs) (hs : a.eval sl = v) (s : ByteArray) (hx : a.eval x = .string s) (h64 : n + s.size ≤ 140737488355328)
    (h : ∀ v' w', Out w0 w' 5 1 v' (n + s.size) (xs ++ Lib.strCells s) → wpList Tryd.prog ops Q rest (a.put o.dst v') w') : wpList Tryd.prog ops Q (o :: rest) a W := by
  obtain ⟨i, hi, hz, hsize, hby⟩ := info_parts infoB
  refine Lib.wpList_append_own_string W hgd sl x 23 9 ho w0.heap.size 5 i Tryd.underlying23 Tryd.underlying9 hi hz hsize hby v n xs hs hout.own s hx (by unfold maxLen; omega) h64 hout.below.size ?_
  intro v' w' ho2 hg _
  exact h v' w' ⟨ho2, hout.below.grown hg hout.below.size (fun k hk => (hout.own.lt k hk).1)⟩

/-- what right instructions hold is not long -/
theorem brief_of {x : I} (h : insFault x = 0) : 1 ≤ x.op ∧ x.op ≤ 28 ∧ x.c.size ≤ 20 ∧ x.n.size ≤ 20 := by
  unfold insFault at h
  split at h
  · cases h
  rename_i h1
  split at h
  · cases h
  rename_i h2
  split at h
  · cases h
  split at h
  · cases h
  rename_i h4
  have hb : bareOk x = true := by simpa using h2
  unfold bareOk at hb
  simp only [Bool.and_eq_true, Bool.or_eq_true, beq_iff_eq] at hb
  refine ⟨by omega, by omega, ?_, ?_⟩
  · rcases hb.1.2 with hc | hc
    · have : nameOk x.c.data.toList = true := by
        cases hn : nameOk x.c.data.toList with
        | true => rfl
        | false => exact absurd (.inr (.inl ⟨hc, hn⟩)) h4
      unfold nameOk at this
      simp only [Bool.and_eq_true, decide_eq_true_eq] at this
      rw [← size_len]; exact this.1.1.2
    · rw [← size_len, hc]; simp
  · rcases hb.2 with hc | hc
    · have : nameOk x.n.data.toList = true := by
        cases hn : nameOk x.n.data.toList with
        | true => rfl
        | false => exact absurd (.inr (.inr ⟨hc, hn⟩)) h4
      unfold nameOk at this
      simp only [Bool.and_eq_true, decide_eq_true_eq] at this
      rw [← size_len]; exact this.1.1.2
    · rw [← size_len, hc]; simp
theorem part_brief {x : I} (h : insFault x = 0) (hs : Small x) (ha : InR x.a) (hb : InR x.b) (ch : UInt8) : (partL x ch).length ≤ 10000000 := by
  obtain ⟨_, _, h3, h4⟩ := brief_of h
  unfold partL
  have h1 := Lib.itoa_length_le x.a ha.1 ha.2
  have h2 := Lib.itoa_length_le x.b hb.1 hb.2
  have h5 := hs.1
  repeat' split
  all_goals first | omega | (rw [size_len]; omega)
/-- the text of a right instruction: the kind's word, its parts -/
theorem form_of {x : I} (h : insFault x = 0) : ∃ (k : Nat) (wd nd : List UInt8), x.op = (k : Int) ∧ 1 ≤ k ∧ k ≤ 28 ∧ formTab[k]? = some (wd, nd) ∧ textL x = wd ++ tailL x nd := by
  obtain ⟨h1, h2, _⟩ := brief_of h
  obtain ⟨k, hk⟩ : ∃ k : Nat, x.op = (k : Int) := ⟨x.op.toNat, by omega⟩
  have hk29 : k < formTab.length := by show k < 29; omega
  obtain ⟨⟨wd, nd⟩, hp⟩ : ∃ p, formTab[k]? = some p := ⟨_, List.getElem?_eq_getElem hk29⟩
  refine ⟨k, wd, nd, hk, by omega, by omega, hp, ?_⟩
  unfold textL
  rw [hk, Int.toNat_natCast, hp]
theorem flat_len (x : I) : ∀ nd : List UInt8, (∀ ch ∈ nd, (partL x ch).length ≤ 10000000) → (tailL x nd).length ≤ nd.length * 10000001
  | [], _ => by simp [tailL]
  | ch :: nd, h => by
    have h1 := flat_len x nd (fun c hc => h c (List.mem_cons_of_mem _ hc))
    have h2 := h ch (List.mem_cons_self ..)
    show (32 :: partL x ch ++ tailL x nd).length ≤ _
    rw [List.length_append, List.length_cons, List.length_cons]
    omega
theorem text_len {x : I} (h : insFault x = 0) (hs : Small x) (ha : InR x.a) (hb : InR x.b) : (textL x).length ≤ 40000000 := by
  obtain ⟨k, wd, nd, _, _, _, hp, e⟩ := form_of h
  obtain ⟨_, h3, h20⟩ := letters_ok hp
  have := flat_len x nd (fun ch _ => part_brief h hs ha hb ch)
  rw [e, List.length_append]
  omega
theorem text_any (op a b : Int) (t c n : ByteArray) (w : World) (hf : FormsAt w) (hp : Pow w) (hs : Small ⟨op, a, b, t, c, n⟩) (ha : InR a) (hb : InR b) (h0 : insFault ⟨op, a, b, t, c, n⟩ = 0) :
    Calls Tryd.prog 11 #[.agg #[.int .i64 op, .int .i64 a, .int .i64 b, .string t, .string c, .string n]] w fun e w' => e = .returned (.tuple #[.string (bs (textL ⟨op, a, b, t, c, n⟩)), .nilIface]) ∧ Below w.heap.size w w' := by
  obtain ⟨k, wd, nd, hk, h1, h2, hp2, e⟩ := form_of h0
  simp only at hk
  subst hk
  rw [e]
  exact text_good k a b t c n w hf hp hs.1 hs.2.1 hs.2.2 ha hb wd nd hp2 h1 h2 h0 (fun ch _ => part_brief h0 hs ha hb ch)
/-- the bytes of an instruction; of code -/
def encI (x : I) : List Int := ((textL x).length : Int) % 256 :: (textL x).map fun b => (b.toNat : Int)
def encTo (l : List I) (k : Nat) : List Int := (l.length : Int) % 256 :: (l.take k).flatMap encI
def codeErr (l : List I) : Int := if 40 < l.length then 4 else badIns l
theorem enc_next {l : List I} {k : Nat} (hk : k < l.length) : encTo l (k + 1) = (encTo l k ++ [((textL l[k]).length : Int) % 256]) ++ (textL l[k]).map fun b => (b.toNat : Int) := by
  unfold encTo
  rw [List.take_succ_eq_append_getElem hk, List.flatMap_append]
  simp [encI]
/-- what is written of each: before the first that is wrong -/
def Written (l : List I) (k : Nat) : Prop := ∀ j (h : j < l.length), j < k → insFault l[j] = 0
theorem enc_len_to {l : List I} (h : ∀ x ∈ l, Small x ∧ InR x.a ∧ InR x.b) (M : Nat) (hM : 40000001 ≤ M) : ∀ k, Written l k → (encTo l k).length ≤ 1 + k * M := by
  intro k
  induction k with
  | zero =>
    intro _
    unfold encTo
    rw [List.take_zero, List.flatMap_nil, List.length_singleton]
    exact Nat.le_add_right _ _
  | succ k ih =>
    intro hw
    have ih := ih (fun j hj hjk => hw j hj (Nat.lt_succ_of_lt hjk))
    rw [Nat.succ_mul]
    by_cases hk : k < l.length
    · obtain ⟨h2, h3, h4⟩ := h _ (List.getElem_mem hk)
      have := text_len (hw k hk (Nat.lt_succ_self k)) h2 h3 h4
      rw [enc_next hk, List.length_append, List.length_append, List.length_map, List.length_singleton]
      omega
    · have : encTo l (k + 1) = encTo l k := by
        unfold encTo; rw [List.take_of_length_le (by omega), List.take_of_length_le (by omega)]
      rw [this]; omega

/-- what code.Encode answers -/
def EncBy (w : World) (l : List I) (e : Ending) (w' : World) : Prop :=
  if codeErr l = 0 then ∃ v, e = .returned (.tuple #[v, .nilIface]) ∧ Out w w' 5 1 v (encTo l l.length).length ((encTo l l.length).map (.int .u8))
  else e = .returned (.tuple #[.slice none 0 0, .iface 32 (.int .i64 (codeErr l))]) ∧ Below w.heap.size w w'

set_option maxRecDepth 100000 in
set_option maxHeartbeats 4000000 in
theorem encode_any (va : Value) (l : List I) (w : World) (ha : Go.Proofs.YtcbefaaipggakaaDoor.flows.Code w va l) (hf : FormsAt w) (hp : Pow w) (hs : ∀ x ∈ l, Small x ∧ InR x.a ∧ InR x.b) (hn : l.length ≤ 2000000) :
    Calls Tryd.prog 7 #[va] w (EncBy w l) := by
  have HA := hid ha; have HF := hid hf; have HP := hid hp; have HS := hid hs
  obtain ⟨a, c, rfl⟩ := ha.val
  clear ha hf hp hs
  by_cases h40 : 40 < l.length
  · have HZ : Hid (codeErr l = 4) := hid (if_pos h40)
    have k40 : (40 : Int) < (l.length : Int) := by omega
    go_enter Tryd.func7, Tryd.ntmps7
    go_wp2
    go_ret2
    unfold EncBy
    rw [HZ.out, if_neg (by decide)]
    exact ⟨rfl, Below.refl _ _⟩
  · have k40 : ¬ (40 : Int) < (l.length : Int) := by omega
    have HZ : Hid (codeErr l = badIns l) := hid (if_neg h40)
    have HE256 : Hid ((l.length : Int) % 256 = l.length) := hid (by omega)
    have HL0 := hid (Out.lit w #[.int .u8 (l.length : Int)] 5 1 1 rfl (by unfold maxLen; omega))
    go_enter Tryd.func7, Tryd.ntmps7
    go_wp2_with fail
    go_loopw [4, 19] (fun v i wr => ∃ k : Nat, k ≤ l.length ∧ i = .int .i64 k ∧ Hid (Out w wr 5 1 v (encTo l k).length ((encTo l k).map (.int .u8))) ∧ Hid (Written l k ∧ badIns l = badIns (l.drop k))) (fun _ i _ => l.length - (intOf i).toNat)
    case atStart => exact ⟨0, Nat.zero_le _, rfl, hid (by simpa [encTo, HE256.out] using HL0.out), hid ⟨fun j _ hj => absurd hj (Nat.not_lt_zero _), rfl⟩⟩
    case round =>
      obtain ⟨k, hk, rfl, HO, HW⟩ := hrel
      obtain ⟨av, cv, hvv⟩ := HO.out.sl.val
      subst hvv
      by_cases hlt : k < l.length
      · obtain ⟨bb, off, hab, hd0, hd1, hd2, hd3, hd4, hd5⟩ := code_at (HA.out.below HO.out.below) hlt
        subst hab
        have hi : (0 : Int) ≤ (k : Int) := by omega
        have hkl : (k : Int) < (l.length : Int) := by omega
        have HSX := hid (HS.out _ (List.getElem_mem hlt))
        have HNX := hid (enc_next hlt)
        have HOK := hid (fun h => bad_ok hlt h)
        have HNO := hid (fun h => bad_no hlt h)
        have HWR : Hid (insFault l[k] = 0 → Written l (k + 1)) := hid (fun h j hj hjk => by
          by_cases e : j = k
          · subst e; exact h
          · exact HW.out.1 j hj (by omega))
        have HEL := hid (enc_len_to (l := l) (fun x hx => HS.out x hx) 40000001 (Nat.le_refl _) k HW.out.1)
        generalize l[k] = x at hd0 hd1 hd2 hd3 hd4 hd5 HSX HNX HOK HNO HWR
        obtain ⟨op, xa, xb, t, xc, xn⟩ := x
        simp only at hd0 hd1 hd2 hd3 hd4 hd5 HSX
        obtain ⟨X1, hX1⟩ : ∃ X1, wr.alloc (.cells #[.int .i64 op, .int .i64 xa, .int .i64 xb, .string t, .string xc, .string xn] 36) = X1 := ⟨_, rfl⟩
        have HO1 : Hid (Out w X1 5 1 (.slice av (encTo l k).length cv) (encTo l k).length ((encTo l k).map (.int .u8))) := hid (hX1 ▸ HO.out.alloc _)
        obtain ⟨y0, y1, y2, y3, y4, y5⟩ : Box X1 wr.heap.size ⟨op, xa, xb, t, xc, xn⟩ := hX1 ▸ Box.new wr ⟨op, xa, xb, t, xc, xn⟩ _
        simp only at y0 y1 y2 y3 y4 y5
        by_cases h0 : insFault ⟨op, xa, xb, t, xc, xn⟩ = 0
        · have HT := hid (text_any op xa xb t xc xn X1 (HF.out.below HO1.out.below) (HP.out.below HO1.out.below) HSX.out.1 HSX.out.2.1 HSX.out.2.2 h0)
          have htl := text_len h0 HSX.out.1 HSX.out.2.1 HSX.out.2.2
          have HW2 := hid (And.intro (HWR.out h0) (HW.out.2.trans (HOK.out h0)))
          obtain ⟨T, hT⟩ : ∃ T, textL ⟨op, xa, xb, t, xc, xn⟩ = T := ⟨_, rfl⟩
          rw [hT] at HT htl HNX
          obtain ⟨S, hS⟩ : ∃ S, bs T = S := ⟨_, rfl⟩
          have hSz : (S.size : Int) = (T.length : Int) := by rw [← hS]; rfl
          have hSn : S.size = T.length := by rw [← hS]; rfl
          have HSC : Hid (Lib.strCells S = (T.map fun b => (b.toNat : Int)).map (.int .u8)) := hid (by rw [← hS]; show (bs T).data.toList.map _ = _; rw [bs_data, List.map_map]; rfl)
          rw [hS] at HT
          have hNb : (encTo l k).length ≤ 1700000000 := by
            have h1 := HEL.out
            have h2 : k ≤ 40 := by omega
            have h3 := Nat.mul_le_mul_right 40000001 h2
            omega
          have HSN := hid hSn
          clear h0 hT hS
          go_wp2_with fail
          refine HT.out.mono ?_
          rintro e w3 ⟨rfl, hb3⟩
          have HO3 := hid (HO1.out.later hb3)
          clear hb3 hX1 y0 y1 y2 y3 y4 y5
          go_wp2_with (at_builtin; refine wpList_append_lit_b w _ _ _ rfl _ _ 23 rfl 5 (.int .u8 0) 1 1 1 Tryd.underlying23 infoB rfl (by decide) _ _ _ HO3.out rfl rfl ?_ rfl ?_ ?_ ?_ ?_)
          all_goals first | (intro v4 w4 ho4 _ _) | omega | (simp [Value.oneCell']; done) | skip
          have HO4 := hid ho4
          obtain ⟨a4, c4, hv4⟩ := ho4.sl.val
          subst hv4
          clear ho4
          go_wp2_with (at_builtin; refine wpList_append_text w _ rfl (.tmp 36) (.tmp 37) rfl _ _ _ HO4.out rfl S rfl ?_ ?_)
          all_goals first | (intro v5 w5 ho5) | omega | skip
          have HO5 : Hid (Out w w5 5 1 v5 (encTo l (k + 1)).length ((encTo l (k + 1)).map (.int .u8))) := hid (by
            rw [HNX.out, List.map_append, List.map_append, List.length_append, List.length_append, List.length_map, List.length_singleton, ← HSC.out, List.append_assoc]; exact ho5)
          clear ho5
          go_wp2
          go_roundw
          case rel => exact ⟨k + 1, by omega, by go_num, HO5, HW2⟩
          case measure => simp [intOf]; omega
        · have HT := hid (text_bad op xa xb t xc xn X1 (HF.out.below HO1.out.below) HSX.out.1.1 HSX.out.1.2.1 HSX.out.1.2.2 h0)
          have HBD : Hid (codeErr l = insFault ⟨op, xa, xb, t, xc, xn⟩) := hid (HZ.out.trans (HW.out.2.trans (HNO.out h0)))
          obtain ⟨z, hz⟩ : ∃ z, insFault ⟨op, xa, xb, t, xc, xn⟩ = z := ⟨_, rfl⟩
          rw [hz] at HT HBD h0
          have HN0 := hid h0
          clear h0 hz
          go_wp2_with fail
          refine HT.out.mono ?_
          rintro e w3 ⟨rfl, hb3⟩
          have HB3 := hid (HO1.out.below.trans (hb3.mono HO1.out.below.size))
          clear hb3 hX1 y0 y1 y2 y3 y4 y5
          go_wp2
          go_ret2
          unfold EncBy
          rw [HBD.out, if_neg HN0.out]
          exact ⟨rfl, HB3.out⟩
      · have hge : ¬ (k : Int) < (l.length : Int) := by omega
        have e : k = l.length := by omega
        have HFI : Hid (codeErr l = 0) := hid (by rw [HZ.out, HW.out.2, e, List.drop_length]; rfl)
        subst e
        go_wp2
        go_ret2
        unfold EncBy
        rw [if_pos HFI.out]
        exact ⟨_, rfl, HO.out⟩
end Go.Proofs.YtcbefaaipggakaaDoor.txts
