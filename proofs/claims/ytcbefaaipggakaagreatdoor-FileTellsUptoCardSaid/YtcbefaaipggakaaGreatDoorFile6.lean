/- The law's bytesOf: its walk. Conditions: the class is right and not long. -/
import Derived.Test.YtcbefaaipggakaaGreatDoorFile4
import Derived.Test.YtcbefaaipggakaaGreatDoorTxt5
import Derived.Lib.SlBytesConst
import Derived.ArgAppend
set_option linter.unusedSimpArgs false
set_option linter.unusedVariables false
namespace Go.Proofs.YtcbefaaipggakaaGreatDoor.files
open Go.RowKit Go.Proofs.YtcbefaaipggakaaGreatDoor.lib Go.Proofs.YtcbefaaipggakaaGreatDoor.errs Go.Proofs.YtcbefaaipggakaaGreatDoor.names Go.Proofs.YtcbefaaipggakaaGreatDoor.descs Go.Proofs.YtcbefaaipggakaaGreatDoor.ins Go.Proofs.YtcbefaaipggakaaGreatDoor.flows Go.Proofs.YtcbefaaipggakaaGreatDoor.hdls Go.Proofs.YtcbefaaipggakaaGreatDoor.classes Go.Proofs.YtcbefaaipggakaaGreatDoor.txts Go.Proofs.YtcbefaaipggakaaGreatDoor.nums Go.Proofs.YtcbefaaipggakaaGreatDoor.grow

/-- a slice of the call's own holds these bytes -/
abbrev BO (w0 u : World) (v : Value) (E : List Int) : Prop := Out w0 u 5 1 v E.length (E.map (.int .u8))
/-- .. and what is no row of bytes stands as in W -/
structure Grew (w0 W u : World) (v : Value) (E : List Int) : Prop where
  out : BO w0 u v E
  kept : Lib.OthersKept 5 none W u
theorem Grew.row {w0 W u : World} {v : Value} {E : List Int} (h : Grew w0 W u v E) {q : Nat} {row : Obj} (hr : W.heap[q]? = some row) (hno : ∀ c fz, row ≠ .cells c 5 fz) : u.heap[q]? = some row := h.kept q row hr (fun e => by cases e) hno
theorem cls_no {c c' : Array Value} {fz fz' : Nat × Nat} : Obj.cells c 26 fz ≠ .cells c' 5 fz' := fun e => by injection e with _ h _; exact absurd h (by decide)
theorem kept_grown {w0 W u : World} {v : Value} {n : Nat} {xs : List Value} (h : Out w0 W 5 1 v n xs) (hg : W.grownBy u v.ownBlock) : Lib.OthersKept 5 none W u := by
  refine (Lib.OthersKept.refl _ _ _).grown hg fun g hgv => ?_
  rcases h.own.2 with ⟨hv, _⟩ | ⟨g', cap, cur, hv, _, hc, _⟩
  · rw [hv] at hgv; cases hgv
  · rw [hv] at hgv; cases hgv; exact ⟨cur, _, hc⟩
theorem wpList_append_text_k (w0 W : World) {ops : Array Oper} {rest : List Oper} {o : Oper} {a : Act} {Q : Exit → Act → World → Prop} (hgd : o.guard = none) (sl x : Operand)
    (ho : o.op = .call { callee := .builtin .append, args := #[sl, x], argTypes := #[30, 9] })
    (v : Value) (n : Nat) (xs : List Value) (hout : Out w0 W 5 1 v n xs) (hs : a.eval sl = v) (s : ByteArray) (hx : a.eval x = .string s) (h64 : n + s.size ≤ 140737488355328)
    (h : ∀ v' w', Out w0 w' 5 1 v' (n + s.size) (xs ++ Lib.strCells s) → W.grownBy w' v.ownBlock → wpList Tryz.prog ops Q rest (a.put o.dst v') w') : wpList Tryz.prog ops Q (o :: rest) a W := by
  obtain ⟨i, hi, hz, hsize, hby⟩ := info_parts infoB
  refine Lib.wpList_append_own_string W hgd sl x 30 9 ho w0.heap.size 5 i Tryz.underlying30 Tryz.underlying9 hi hz hsize hby v n xs hs hout.own s hx (by unfold maxLen; omega) h64 hout.below.size ?_
  intro v' w' ho2 hg _
  exact h v' w' ⟨ho2, hout.below.grown hg hout.below.size (fun k hk => (hout.own.lt k hk).1)⟩ hg

set_option maxRecDepth 100000 in
set_option maxHeartbeats 1000000 in
theorem ltext_any {w0 W : World} {v : Value} {E : List Int} (s : ByteArray) (h : BO w0 W v E) (hn : E.length + s.size + 1 ≤ 140737488355328) :
    Calls Tryz.prog 20 #[v, .string s] W fun e u => ∃ v', e = .returned v' ∧ Grew w0 W u v' (E ++ tb s) := by
  have HO := hid h
  have HSC : Hid (Lib.strCells s = (s.data.toList.map fun b => (b.toNat : Int)).map (.int .u8)) := hid (by rw [List.map_map]; rfl)
  obtain ⟨a, c, rfl⟩ := h.sl.val
  clear h
  go_enter Tryz.func20, Tryz.ntmps20
  go_wp2_with (at_builtin; refine wpList_append_lit_b w0 _ _ _ rfl _ _ 30 rfl 5 (.int .u8 0) 1 1 1 Tryz.underlying30 infoB rfl (by decide) _ _ _ HO.out rfl rfl ?_ rfl ?_ ?_ ?_ ?_)
  all_goals first | (intro v4 w4 ho4 hg4 _) | omega | (simp [Value.oneCell']; done) | skip
  have HO4 := hid ho4
  have HK4 := hid (kept_grown HO.out hg4)
  obtain ⟨a4, c4, hv4⟩ := ho4.sl.val
  subst hv4
  clear ho4 hg4
  go_wp2_with (at_builtin; refine wpList_append_text_k w0 _ rfl (.tmp 10) (.tmp 11) rfl _ _ _ HO4.out rfl s rfl ?_ ?_)
  all_goals first | (intro v5 w5 ho5 hg5) | omega | skip
  have HK5 := hid (HK4.out.trans (kept_grown HO4.out hg5))
  have HO5 : Hid (BO w0 w5 v5 (E ++ tb s)) := hid (by
    have h1 : (E ++ tb s).length = E.length + 1 + s.size := by rw [List.length_append, tb_len]; omega
    have h2 : (E ++ tb s).map (Value.int .u8) = E.map (.int .u8) ++ Value.int .u8 ((s.size : Int) % 256) :: Lib.strCells s := by
      rw [HSC.out]; unfold tb; simp
    unfold BO
    rw [h1, h2]
    exact ho5)
  clear ho5 hg5
  go_wp2
  go_ret
  exact ⟨_, rfl, HO5.out, HK5.out⟩

set_option maxRecDepth 100000 in
set_option maxHeartbeats 1000000 in
/-- .. on a slice that is full and is no slice of the call's own to write on -/
theorem ltext_full {w0 W : World} {g n : Nat} {E : List Int} (s : ByteArray) (hb : Below w0.heap.size w0 W) (h : Sl W (.slice (some ⟨g, 0, none⟩) n n) n 1 (E.map (.int .u8))) (hE : E.length = n) (h0 : 0 < n) (hn : n + s.size + 1 ≤ 140737488355328) :
    Calls Tryz.prog 20 #[.slice (some ⟨g, 0, none⟩) n n, .string s] W fun e u => ∃ v', e = .returned v' ∧ Grew w0 W u v' (E ++ tb s) := by
  have HSC : Hid (Lib.strCells s = (s.data.toList.map fun b => (b.toNat : Int)).map (.int .u8)) := hid (by rw [List.map_map]; rfl)
  have HB := hid (hb.trans ((ext_alloc W (.cells #[.int .u8 ((s.size : Int) % 256)] 5)).mono hb.size))
  have HEL := hid hE
  have HH : Hid (∀ j u, (E.map (Value.int .u8))[j]? = some u → (W.alloc (.cells #[.int .u8 ((s.size : Int) % 256)] 5)).cell? ⟨g, 0 + j, none⟩ = some u) := hid (fun j u hu => by
    have hs2 := h.below (ext_alloc W (.cells #[.int .u8 ((s.size : Int) % 256)] 5))
    obtain ⟨_, a', c', he, _, hx⟩ := hs2
    simp only [Value.slice.injEq] at he
    obtain ⟨rfl, _, _⟩ := he
    rcases hx with hx | ⟨b, off, hbo, hx⟩
    · rw [hx] at hu; cases hu
    · cases hbo; exact hx j u hu)
  have hl : (E.map (Value.int .u8)).length = n * 1 := by simp [hE]
  have HL := hid hl
  clear h hb hE hl
  obtain ⟨ib, hib, hz, hsize, hby⟩ := info_parts infoB
  have HI := hid (And.intro hib (And.intro hz (And.intro hsize hby)))
  clear hib hz hsize hby
  go_enter Tryz.func20, Tryz.ntmps20
  go_wp2_with (at_builtin; refine wpList_append_arg _ rfl _ _ 30 rfl 5 ib (.int .u8 0) 1 1 Tryz.underlying30 HI.out.1 HI.out.2.1 HI.out.2.2.1 HI.out.2.2.2 rfl (by decide) g 0 n n (E.map (.int .u8)) rfl HL.out HH.out ⟨W.heap.size, 0, none⟩ 1 1 [.int .u8 ((s.size : Int) % 256)] rfl rfl ?_ ?_ (fun hh => absurd hh (by omega)) ?_ ?_ (fun hh => absurd hh (by omega)) ?_)
  all_goals first | omega | (unfold maxLen; omega) | (intro v4 w4 ho4 hg4) | (intro _ v4 w4 ho4 hg4) | skip
  case refine_1 =>
    intro j u hu
    rw [Addr.add_lit, World.cell?_alloc_at _ _ _ _ rfl]
    simpa using hu
  case refine_2 => intro u hu; rw [List.mem_singleton.1 hu]; rfl
  have HK4 : Hid (Lib.OthersKept 5 none W w4) := hid ((kept_of_below (ext_alloc _ _)).trans ((Lib.OthersKept.refl _ _ _).grown hg4 fun g hgv => by cases hgv))
  have HO4 : Hid (Out w0 w4 5 1 v4 (n + 1) (E.map (.int .u8) ++ [.int .u8 ((s.size : Int) % 256)])) := hid ⟨owns_less ho4 (by have := HB.out.size; rwa [World.size_alloc] at this), HB.out.grown hg4 HB.out.size (fun k hk => by cases hk)⟩
  obtain ⟨a4, c4, hv4⟩ := HO4.out.sl.val
  subst hv4
  clear ho4 hg4
  go_wp2_with (at_builtin; refine wpList_append_text_k w0 _ rfl (.tmp 10) (.tmp 11) rfl _ _ _ HO4.out rfl s rfl ?_ ?_)
  all_goals first | (intro v5 w5 ho5 hg5) | omega | skip
  have HK5 := hid (HK4.out.trans (kept_grown HO4.out hg5))
  have HO5 : Hid (BO w0 w5 v5 (E ++ tb s)) := hid (by
    have h1 : (E ++ tb s).length = n + 1 + s.size := by rw [List.length_append, tb_len, HEL.out]; omega
    have h2 : (E ++ tb s).map (Value.int .u8) = E.map (.int .u8) ++ Value.int .u8 ((s.size : Int) % 256) :: Lib.strCells s := by
      rw [HSC.out]; unfold tb; simp
    unfold BO
    rw [h1, h2]
    exact ho5)
  clear ho5 hg5
  go_wp2
  go_ret
  exact ⟨_, rfl, HO5.out, HK5.out⟩

theorem flag_any (b : Bool) (n : Int) (w : World) : Calls Tryz.prog 21 #[.bool b, .int .i64 n] w fun e w' => e = .returned (.int .i64 (if b = true then n else 0)) ∧ w' = w := by
  cases b
  all_goals
    go_enter Tryz.func21, Tryz.ntmps21
    go_wp2
    go_ret
    exact ⟨rfl, rfl⟩
end Go.Proofs.YtcbefaaipggakaaGreatDoor.files

set_option linter.unusedSimpArgs false
set_option linter.unusedVariables false
namespace Go.Proofs.YtcbefaaipggakaaGreatDoor.files
open Go.RowKit Go.Proofs.YtcbefaaipggakaaGreatDoor.lib Go.Proofs.YtcbefaaipggakaaGreatDoor.errs Go.Proofs.YtcbefaaipggakaaGreatDoor.names Go.Proofs.YtcbefaaipggakaaGreatDoor.descs Go.Proofs.YtcbefaaipggakaaGreatDoor.ins Go.Proofs.YtcbefaaipggakaaGreatDoor.flows Go.Proofs.YtcbefaaipggakaaGreatDoor.hdls Go.Proofs.YtcbefaaipggakaaGreatDoor.classes Go.Proofs.YtcbefaaipggakaaGreatDoor.txts Go.Proofs.YtcbefaaipggakaaGreatDoor.nums Go.Proofs.YtcbefaaipggakaaGreatDoor.grow

def oneB (L : List Int) : Value → World → Prop := fun v u => Sl u v L.length 1 (L.map (.int .u8))
theorem oneB_stays (L : List Int) : ∀ v w w', Below w.heap.size w w' → oneB L v w → oneB L v w' := fun _ _ _ hb h => Sl.below h hb
theorem met_cls {c c' : Array Value} {fz fz' : Nat × Nat} : Obj.cells c 46 fz ≠ .cells c' 5 fz' := met_no

set_option maxRecDepth 100000 in
set_option maxHeartbeats 8000000 in
theorem bytesof_any (c : CV) (w : World) (hc : c.At w) (hg : GoodC c) (hr : ∀ m ∈ c.mets, m.code.length ≤ 40 ∧ ∀ x ∈ m.code, insFault x = 0) :
    Calls Tryz.prog 8 #[.agg c.cells.toArray] w fun e w' => ∃ v, e = .returned v ∧ BO w w' v (cb c) := by
  have HGC := hid hg
  have HRT := hid hr
  obtain ⟨nm, sup, vf, face, vd, vm, faces, fields, mets⟩ := c
  have h1 := hc.faces
  have h2 := hc.fields
  have h3 := hc.mets
  simp only [CV.cells] at h1 h2 h3 ⊢
  obtain ⟨af, cf, rfl⟩ := h1.val
  obtain ⟨ad, cd, rfl⟩ := h2.val
  obtain ⟨am, cm, rfl⟩ := h3.sl.val
  have HFA := hid h1
  have HFD := hid h2
  have HFM := hid h3
  have HNM := hid (show nm.size ≤ 1048576 from hg.small.nm)
  have HSU := hid (show sup.size ≤ 1048576 from hg.small.sup)
  have HFN := hid (show faces.length ≤ 8 from hg.fn)
  have HDN := hid (show fields.length ≤ 8 from hg.dn)
  have HMN := hid (show mets.length ≤ 8 from hg.mn)
  have HFS := hid (show ∀ x ∈ faces, x.size ≤ 1048576 from hg.small.faces)
  have HDS := hid (show ∀ x ∈ fields, x.nm.size ≤ 1048576 ∧ x.ty.size ≤ 1048576 from hg.small.fields)
  have HMG := hid (show ∀ x ∈ mets, GoodM x from hg.mets)
  have HMR := hid (show ∀ m ∈ mets, m.code.length ≤ 40 ∧ ∀ x ∈ m.code, insFault x = 0 from hr)
  have hf8 : faces.length ≤ 1000000 := by have := HFN.out; omega
  have hd8 : fields.length ≤ 1000000 := by have := HDN.out; omega
  have hm8 : mets.length ≤ 1000000 := by have := HMN.out; omega
  obtain ⟨q, hq⟩ : ∃ q, w.heap.size = q := ⟨_, rfl⟩
  obtain ⟨RC, hRC⟩ : ∃ RC : Array Value, #[.string nm, .string sup, .slice af faces.length cf, .bool face, .slice ad fields.length cd, .slice am mets.length cm] = RC := ⟨_, rfl⟩
  have E0 : Hid (RC[0]? = some (.string nm)) := hid (by rw [← hRC]; rfl)
  have E1 : Hid (RC[1]? = some (.string sup)) := hid (by rw [← hRC]; rfl)
  have E2 : Hid (RC[2]? = some (.slice af faces.length cf)) := hid (by rw [← hRC]; rfl)
  have E3 : Hid (RC[3]? = some (.bool face)) := hid (by rw [← hRC]; rfl)
  have E4 : Hid (RC[4]? = some (.slice ad fields.length cd)) := hid (by rw [← hRC]; rfl)
  have E5 : Hid (RC[5]? = some (.slice am mets.length cm)) := hid (by rw [← hRC]; rfl)
  obtain ⟨W0, hW0⟩ : ∃ W0, w.alloc (.cells RC 26) = W0 := ⟨_, rfl⟩
  have HB0 : Hid (Below w.heap.size w W0.drew) := hid (by subst hW0; exact (ext_alloc _ _).drew)
  have R0 : Hid (W0.drew.heap[q]? = some (.cells RC 26)) := hid (by subst hW0; rw [← hq]; exact heap_alloc_new _ _)
  clear hc hg hr h1 h2 h3
  go_enter Tryz.func8, Tryz.ntmps8
  go_wp2_with fail
  refine wp_region_c (fun u => u.heap[q]? = some (.cells RC 26) ∧ Below w.heap.size w u) (by kernel_rfl) ?_
  clear hW0 hq hRC
  refine c_take 2 _ _ rfl (by kernel_rfl) (by kernel_rfl) (by kernel_rfl) rfl (fun c a' w' h => ⟨(putC_defers _ _ _).symm.trans h.1, h.2⟩) ⟨R0.out, HB0.out⟩ (fun u hu => by
    go_simp; rfl) ?_
  simp only [List.getElem_toArray, List.getElem_cons_zero, List.getElem_cons_succ, Act.put, List.setIfInBounds_toArray, List.set_cons_zero, List.set_cons_succ]
  refine c_take 3 _ _ rfl (by kernel_rfl) (by kernel_rfl) (by kernel_rfl) rfl (fun c a' w' h => ⟨(putC_defers _ _ _).symm.trans h.1, h.2⟩) ⟨R0.out, HB0.out⟩ (fun u hu => by
    have q0 := (cell_of_row _ _ 0 _ _ _ hu.1).trans E0.out
    go_simp; rfl) ?_
  simp only [List.getElem_toArray, List.getElem_cons_zero, List.getElem_cons_succ, Act.put, List.setIfInBounds_toArray, List.set_cons_zero, List.set_cons_succ]
  refine c_take 5 _ _ rfl (by kernel_rfl) (by kernel_rfl) (by kernel_rfl) rfl (fun c a' w' h => ⟨(putC_defers _ _ _).symm.trans h.1, h.2⟩) ⟨R0.out, HB0.out⟩ (fun u hu => by
    go_simp; rfl) ?_
  simp only [List.getElem_toArray, List.getElem_cons_zero, List.getElem_cons_succ, Act.put, List.setIfInBounds_toArray, List.set_cons_zero, List.set_cons_succ]
  refine c_take 6 _ _ rfl (by kernel_rfl) (by kernel_rfl) (by kernel_rfl) rfl (fun c a' w' h => ⟨(putC_defers _ _ _).symm.trans h.1, h.2⟩) ⟨R0.out, HB0.out⟩ (fun u hu => by
    have q1 := (cell_of_row _ _ 1 _ _ _ hu.1).trans E1.out
    go_simp; rfl) ?_
  simp only [List.getElem_toArray, List.getElem_cons_zero, List.getElem_cons_succ, Act.put, List.setIfInBounds_toArray, List.set_cons_zero, List.set_cons_succ]
  refine c_only 0 _ rfl (by kernel_rfl) ?_
  go_simp
  have HM1 : Hid (Below w.heap.size w (W0.drew.alloc (.cells #[.int .u8 67, .int .u8 65, .int .u8 70, .int .u8 69, .int .u8 1] 5))) := hid (HB0.out.trans ((ext_alloc _ _).mono HB0.out.size))
  have R1 : Hid ((W0.drew.alloc (.cells #[.int .u8 67, .int .u8 65, .int .u8 70, .int .u8 69, .int .u8 1] 5)).heap[q]? = some (.cells RC 26)) := hid (((ext_alloc W0.drew _).block q (Array.getElem?_eq_some_iff.1 R0.out).1).trans R0.out)
  refine ⟨⟨R1.out, HM1.out⟩, ?_⟩
  try simp only [List.getElem_toArray, List.getElem_cons_zero, List.getElem_cons_succ, Act.put, List.setIfInBounds_toArray, List.set_cons_zero, List.set_cons_succ]
  refine c_only 1 _ rfl (by kernel_rfl) ?_
  obtain ⟨WM, hWM⟩ : ∃ WM, W0.drew.alloc (.cells #[.int .u8 67, .int .u8 65, .int .u8 70, .int .u8 69, .int .u8 1] 5 (5, 6)) = WM := ⟨_, rfl⟩
  have HMB : Hid (Below w.heap.size w WM) := hid (by subst hWM; exact HB0.out.trans ((ext_alloc _ _).mono HB0.out.size))
  have RWM : Hid (WM.heap[q]? = some (.cells RC 26)) := hid (by subst hWM; exact ((ext_alloc W0.drew _).block q (Array.getElem?_eq_some_iff.1 R0.out).1).trans R0.out)
  have SM : Hid (Sl WM (.slice (some ⟨W0.heap.size, 0, none⟩) 5 5) 5 1 (magic.map (.int .u8))) := hid (by
    subst hWM
    refine ⟨rfl, _, _, rfl, Nat.le_refl _, .inr ⟨W0.heap.size, 0, rfl, fun j u hu => ?_⟩⟩
    rw [Nat.zero_add]
    exact (World.cell?_alloc_mark W0.drew _ _ _ j).trans (by simpa [magic] using hu))
  have kc : (convert 30 30 (.slice (some ⟨W0.heap.size, 0, none⟩) 5 5)).run Tryz.prog (W0.alloc (.cells #[.int .u8 67, .int .u8 65, .int .u8 70, .int .u8 69, .int .u8 1] 5)).drew = .ok (.slice (some ⟨W0.heap.size, 0, none⟩) 5 5) WM := by
    rw [← hWM]
    exact Lib.run_convert_bytes_const (P := Tryz.prog) W0.drew 30 5 #[.int .u8 67, .int .u8 65, .int .u8 70, .int .u8 69, .int .u8 1] 5 5 Tryz.underlying30 Tryz.underlying5
  go_simp
  refine ⟨⟨RWM.out, HMB.out⟩, ?_⟩
  try simp only [List.getElem_toArray, List.getElem_cons_zero, List.getElem_cons_succ, Act.put, List.setIfInBounds_toArray, List.set_cons_zero, List.set_cons_succ]
  clear hWM kc
  refine c_only 4 _ rfl (by kernel_rfl) ?_
  go_simp
  refine (ltext_full nm HMB.out SM.out rfl (by decide) (by have := HNM.out; omega)).mono ?_
  rintro e w_2 ⟨v_2, rfl, h_2⟩
  have B2 := hid h_2.out
  have R2 := hid (h_2.row RWM.out fun _ _ => cls_no)
  clear h_2
  refine ⟨⟨R2.out, B2.out.below⟩, ?_⟩
  try simp only [List.getElem_toArray, List.getElem_cons_zero, List.getElem_cons_succ, Act.put, List.setIfInBounds_toArray, List.set_cons_zero, List.set_cons_succ]
  refine c_only 7 _ rfl (by kernel_rfl) ?_
  go_simp
  refine (ltext_any sup B2.out (by have := HNM.out; have := HSU.out; simp only [List.length_append, tb_len, List.length_cons, List.length_nil, magic]; omega)).mono ?_
  rintro e w_3 ⟨v_3, rfl, h_3⟩
  have B3 := hid h_3.out
  have R3 := hid (h_3.row R2.out fun _ _ => cls_no)
  clear h_3
  refine ⟨⟨R3.out, B3.out.below⟩, ?_⟩
  try simp only [List.getElem_toArray, List.getElem_cons_zero, List.getElem_cons_succ, Act.put, List.setIfInBounds_toArray, List.set_cons_zero, List.set_cons_succ]
  refine c_take 8 _ _ rfl (by kernel_rfl) (by kernel_rfl) (by kernel_rfl) rfl (fun c a' w' h => ⟨(putC_defers _ _ _).symm.trans h.1, h.2⟩) ⟨R3.out, B3.out.below⟩ (fun u hu => by
    go_simp; rfl) ?_
  simp only [List.getElem_toArray, List.getElem_cons_zero, List.getElem_cons_succ, Act.put, List.setIfInBounds_toArray, List.set_cons_zero, List.set_cons_succ]
  refine c_end (by kernel_rfl) ?_
  have HG0 : Hid (∃ G : List Int, G.length ≤ 2100000 ∧ BO w w_3 v_3 G ∧ magic ++ tb nm ++ tb sup = G) := hid ⟨_, by have := HNM.out; have := HSU.out; simp only [List.length_append, tb_len, List.length_cons, List.length_nil, magic]; omega, B3.out, rfl⟩
  obtain ⟨G0, hG0, hB, hE⟩ := HG0.out
  have B4 := hid hB
  have HE0 := hid hE
  clear hB hE HG0
  have R4 := R3
  have q2 := (cell_of_row _ _ 2 _ _ _ R4.out).trans E2.out
  go_wp2_with (at_builtin; refine wpList_append_lit_b w _ _ _ rfl _ _ 30 rfl 5 (.int .u8 0) 1 1 1 Tryz.underlying30 infoB rfl (by decide) _ _ _ B4.out rfl rfl ?_ rfl ?_ ?_ ?_ ?_)
  all_goals first | (intro v_5 w_5 ho_5 hg_5 _) | omega | (simp [Value.oneCell']; done) | skip
  have GR5 : Hid (Grew w w_3 w_5 v_5 (G0 ++ [(faces.length : Int) % 256])) := hid ⟨by unfold BO; rw [List.length_append, List.map_append]; exact ho_5, kept_grown B4.out hg_5⟩
  have B5 := hid GR5.out.out
  have R5 := hid (GR5.out.row R4.out fun _ _ => cls_no)
  clear ho_5 hg_5 GR5
  clear q2
  obtain ⟨G1, hGE⟩ : ∃ G1, G0 ++ [(faces.length : Int) % 256] = G1 := ⟨_, rfl⟩
  rw [hGE] at B5
  have hG1 : G1.length ≤ 2100001 := by rw [← hGE]; simp; omega
  have HE1 := hid hGE
  clear hGE
  go_wp2_with fail
  go_loopw [3, 4] (fun v i wr => ∃ k : Nat, k ≤ faces.length ∧ i = .int .i64 k ∧ Hid (BO w wr v (G1 ++ (faces.take k).flatMap tb)) ∧ Hid (wr.heap[q]? = some (.cells RC 26))) (fun _ i _ => faces.length - (intOf i).toNat)
  case atStart => exact ⟨0, Nat.zero_le _, rfl, hid (by simpa using B5.out), R5⟩
  case round =>
    obtain ⟨k, hk, rfl, B6, R6⟩ := hrel
    have q2 := (cell_of_row _ _ 2 _ _ _ R6.out).trans E2.out
    have HKL : Hid (((faces.take k).flatMap tb).length ≤ 10000000) := hid (by
      have h1 := flat_le tb 1048577 (faces.take k) fun x hx => by rw [tb_len]; have := HFS.out x (List.mem_of_mem_take hx); omega
      have h2 : (faces.take k).length ≤ 8 := by rw [List.length_take]; have := HFN.out; omega
      have h3 := Nat.mul_le_mul_right 1048577 h2
      omega)
    by_cases hlt : k < faces.length
    · obtain ⟨bb, off, hab, hc0⟩ := text_at (HFA.out.below B6.out.below) hlt
      subst hab
      have hi : (0 : Int) ≤ (k : Int) := by omega
      have hkl : (k : Int) < (faces.length : Int) := by omega
      have HSZ := hid (HFS.out _ (List.getElem_mem hlt))
      have HNX : Hid ((faces.take (k + 1)).flatMap tb = (faces.take k).flatMap tb ++ tb faces[k]) := hid (flat_take tb faces hlt)
      generalize faces[k] = x at hc0 HSZ HNX
      go_wp2_with fail
      refine (ltext_any x B6.out (by have := HKL.out; have := HSZ.out; simp only [List.length_append]; omega)).mono ?_
      rintro e w3 ⟨v3, rfl, h3⟩
      have T3 : Hid (BO w w3 v3 (G1 ++ (faces.take (k + 1)).flatMap tb)) := hid (by
        have := h3.out
        rw [HNX.out]
        simpa only [List.append_assoc] using this)
      have RT := hid (h3.row R6.out fun _ _ => cls_no)
      clear h3 hc0 q2
      go_wp2
      go_roundw
      case rel => exact ⟨k + 1, by omega, by go_num, T3, RT⟩
      case measure => simp [intOf]; omega
    · have hge : ¬ (k : Int) < (faces.length : Int) := by omega
      have e : k = faces.length := by omega
      obtain ⟨w_7, hU0⟩ : ∃ W, W = wr := ⟨_, rfl⟩
      subst hU0
      have B7 : Hid (BO w w_7 u3 (G1 ++ faces.flatMap tb)) := hid (by have := B6.out; rwa [e, List.take_length] at this)
      have HKL2 : Hid ((faces.flatMap tb).length ≤ 10000000) := hid (by have := HKL.out; rwa [e, List.take_length] at this)
      have R7 := R6
      subst e
      clear B6 R6 hk HKL
      obtain ⟨f1, hf1⟩ : ∃ f1 : Int, (if face = true then 1 else 0) = f1 := ⟨_, rfl⟩
      have HF1 := hid hf1
      have HBT : Hid (bit [face] = f1 % 256) := hid (by rw [← hf1]; cases face <;> decide)
      clear hf1
      obtain ⟨G2, hGE⟩ : ∃ G2, G1 ++ faces.flatMap tb = G2 := ⟨_, rfl⟩
      rw [hGE] at B7
      have hG2 : G2.length ≤ 13000000 := by rw [← hGE, List.length_append]; have := HKL2.out; omega
      have HE2 := hid hGE
      clear hGE
      have HLT := hid (Array.getElem?_eq_some_iff.1 R7.out).1
      go_wp2_with fail
      refine wp_region_ext_tail 10 [(3, is (.int .i64 f1)), (9, oneB [f1 % 256, (fields.length : Int) % 256])] ⟨is_stays _, oneB_stays _, trivial⟩ (by kernel_rfl) (by kernel_rfl) ?_
      refine wpG_calc 1 rfl rfl rfl (fun u => by go_simp; rfl) ?_
      simp only [Act.put, List.setIfInBounds_toArray, List.set_cons_zero, List.set_cons_succ]
      refine wpG_calc 2 rfl rfl rfl (fun u => by go_simp; rfl) ?_
      simp only [Act.put, List.setIfInBounds_toArray, List.set_cons_zero, List.set_cons_succ]
      refine wpG_read 3 rfl rfl (.bool face) rfl ?_ ?_
      · intro u hu hh
        have q3 := (cell_of_row _ _ 3 _ _ _ ((hu.block q HLT.out).trans R7.out)).trans E3.out
        go_simp
      simp only [Act.put, List.setIfInBounds_toArray, List.set_cons_zero, List.set_cons_succ]
      refine wpG_rel 4 rfl rfl rfl ?_ ?_
      · intro u hu hh
        clear hh
        go_simp
        refine (flag_any face 1 u).mono ?_
        rintro e u' ⟨rfl, rfl⟩
        exact ⟨_, rfl, by rw [HF1.out]; rfl, Below.refl _ _⟩
      intro v3 ⟨u3, _, hr3⟩
      obtain rfl : v3 = .int .i64 f1 := hr3
      simp only [Act.put, List.setIfInBounds_toArray, List.set_cons_zero, List.set_cons_succ]
      refine wpG_calc 5 rfl rfl rfl (fun u => by go_simp; rfl) ?_
      simp only [Act.put, List.setIfInBounds_toArray, List.set_cons_zero, List.set_cons_succ]
      refine wpG_calc 6 rfl rfl rfl (fun u => by go_simp; rfl) ?_
      simp only [Act.put, List.setIfInBounds_toArray, List.set_cons_zero, List.set_cons_succ]
      refine wpG_read 7 rfl rfl (.slice ad fields.length cd) rfl ?_ ?_
      · intro u hu hh
        have q4 := (cell_of_row _ _ 4 _ _ _ ((hu.block q HLT.out).trans R7.out)).trans E4.out
        go_simp
      simp only [Act.put, List.setIfInBounds_toArray, List.set_cons_zero, List.set_cons_succ]
      refine wpG_calc 8 rfl rfl rfl (fun u => by go_simp; rfl) ?_
      simp only [Act.put, List.setIfInBounds_toArray, List.set_cons_zero, List.set_cons_succ]
      refine wpG_calc 9 rfl rfl rfl (fun u => by go_simp; rfl) ?_
      simp only [Act.put, List.setIfInBounds_toArray, List.set_cons_zero, List.set_cons_succ]
      refine wpG_rel 10 rfl rfl rfl ?_ ?_
      · intro u hu hh
        clear hh
        go_simp
        exact ⟨Sl.lit u #[.int .u8 (f1 % 256), .int .u8 ((fields.length : Int) % 256)] 5 2 1 rfl, ext_alloc _ _⟩
      intro v9 ⟨u9, _, hr9⟩
      obtain ⟨a9, c9, hv9⟩ := Sl.val hr9
      clear hr9
      subst hv9
      simp only [Act.put, List.setIfInBounds_toArray, List.set_cons_zero, List.set_cons_succ]
      refine wpG_nil fun w8 hb8 hF => ?_
      have HONE : Hid (oneB [f1 % 256, (fields.length : Int) % 256] (.slice a9 [f1 % 256, (fields.length : Int) % 256].length c9) w8) := hid (hF 9)
      clear hF
      have B8 := hid (B7.out.later hb8)
      have R8 := hid ((hb8.block q HLT.out).trans R7.out)
      clear hb8
      refine wpList_append_src w w8 rfl (.tmp 39) (.tmp 48) 30 rfl 5 (.int .u8 0) 1 1 2 Tryz.underlying30 infoB rfl (by decide) _ _ _ B8.out rfl (.slice a9 2 c9) _ HONE.out rfl (ones _) (by omega) (by omega) (fun v9 w9 ho9 hg9 => ?_)
      have GR9 : Hid (Grew w w8 w9 v9 (G2 ++ [f1 % 256, (fields.length : Int) % 256])) := hid ⟨by unfold BO; rw [List.length_append, List.map_append]; exact ho9, kept_grown B8.out hg9⟩
      have B9 := hid GR9.out.out
      have R9 := hid (GR9.out.row R8.out fun _ _ => cls_no)
      clear ho9 hg9 GR9 HONE B8 R8
      obtain ⟨G3, hGE⟩ : ∃ G3, G2 ++ [f1 % 256, (fields.length : Int) % 256] = G3 := ⟨_, rfl⟩
      rw [hGE] at B9
      have hG3 : G3.length ≤ 13000010 := by rw [← hGE]; simp; omega
      have HE3 := hid hGE
      clear hGE
      go_wp2_with fail
      go_loopw [3, 5] (fun v i wr => ∃ k : Nat, k ≤ fields.length ∧ i = .int .i64 k ∧ Hid (BO w wr v (G3 ++ (fields.take k).flatMap fb)) ∧ Hid (wr.heap[q]? = some (.cells RC 26))) (fun _ i _ => fields.length - (intOf i).toNat)
      case atStart => exact ⟨0, Nat.zero_le _, rfl, hid (by simpa using B9.out), R9⟩
      case round =>
        obtain ⟨k, hk, rfl, B10, R10⟩ := hrel
        have q4 := (cell_of_row _ _ 4 _ _ _ R10.out).trans E4.out
        have HKL : Hid (((fields.take k).flatMap fb).length ≤ 20000000) := hid (by
          have h1 := flat_le fb 2097154 (fields.take k) fun x hx => fb_len (HDS.out x (List.mem_of_mem_take hx))
          have h2 : (fields.take k).length ≤ 8 := by rw [List.length_take]; have := HDN.out; omega
          have h3 := Nat.mul_le_mul_right 2097154 h2
          omega)
        by_cases hlt : k < fields.length
        · obtain ⟨bb, off, hab, hc0, hc1⟩ := fd_at HFD.out hlt
          subst hab
          have hi : (0 : Int) ≤ (k : Int) := by omega
          have hkl : (k : Int) < (fields.length : Int) := by omega
          have HSZ := hid (HDS.out _ (List.getElem_mem hlt))
          have HNX : Hid ((fields.take (k + 1)).flatMap fb = (fields.take k).flatMap fb ++ fb fields[k]) := hid (flat_take fb fields hlt)
          generalize fields[k] = x at hc0 hc1 HSZ HNX
          obtain ⟨fn, ft⟩ := x
          simp only at hc0 hc1 HSZ
          have HFC : Hid (∀ u, Below w.heap.size w u → u.cell? ⟨bb, off + k * 2, none⟩ = some (.string fn) ∧ u.cell? ⟨bb, off + k * 2 + 1, none⟩ = some (.string ft)) := hid (fun u hu => ⟨(hu.cell (World.block_lt_of_cell? _ _ hc0)).trans hc0, (hu.cell (World.block_lt_of_cell? _ _ hc1)).trans hc1⟩)
          clear hc0 hc1
          have HBR := hid B10.out.below
          have B11 := hid B10.out.drew
          have R11 : Hid (wr.drew.heap[q]? = some (.cells RC 26)) := R10
          go_wp2_with fail
          refine wp_region_c (fun u => u.heap[q]? = some (.cells RC 26) ∧ Below w.heap.size w u) (by kernel_rfl) ?_
          refine c_take 0 _ _ rfl (by kernel_rfl) (by kernel_rfl) (by kernel_rfl) rfl (fun c a' w' h => ⟨(putC_defers _ _ _).symm.trans h.1, h.2⟩) ⟨R11.out, B11.out.below⟩ (fun u hu => by
            go_simp; rfl) ?_
          simp only [List.getElem_toArray, List.getElem_cons_zero, List.getElem_cons_succ, Act.put, List.setIfInBounds_toArray, List.set_cons_zero, List.set_cons_succ]
          refine c_take 1 _ _ rfl (by kernel_rfl) (by kernel_rfl) (by kernel_rfl) rfl (fun c a' w' h => ⟨(putC_defers _ _ _).symm.trans h.1, h.2⟩) ⟨R11.out, B11.out.below⟩ (fun u hu => by
            go_simp; rfl) ?_
          simp only [List.getElem_toArray, List.getElem_cons_zero, List.getElem_cons_succ, Act.put, List.setIfInBounds_toArray, List.set_cons_zero, List.set_cons_succ]
          refine c_take 2 _ _ rfl (by kernel_rfl) (by kernel_rfl) (by kernel_rfl) rfl (fun c a' w' h => ⟨(putC_defers _ _ _).symm.trans h.1, h.2⟩) ⟨R11.out, B11.out.below⟩ (fun u hu => by
            have q4 := (cell_of_row _ _ 4 _ _ _ hu.1).trans E4.out
            go_simp; rfl) ?_
          simp only [List.getElem_toArray, List.getElem_cons_zero, List.getElem_cons_succ, Act.put, List.setIfInBounds_toArray, List.set_cons_zero, List.set_cons_succ]
          refine c_take 3 _ _ rfl (by kernel_rfl) (by kernel_rfl) (by kernel_rfl) rfl (fun c a' w' h => ⟨(putC_defers _ _ _).symm.trans h.1, h.2⟩) ⟨R11.out, B11.out.below⟩ (fun u hu => by
            go_simp; rfl) ?_
          simp only [List.getElem_toArray, List.getElem_cons_zero, List.getElem_cons_succ, Act.put, List.setIfInBounds_toArray, List.set_cons_zero, List.set_cons_succ]
          refine c_take 4 _ _ rfl (by kernel_rfl) (by kernel_rfl) (by kernel_rfl) rfl (fun c a' w' h => ⟨(putC_defers _ _ _).symm.trans h.1, h.2⟩) ⟨R11.out, B11.out.below⟩ (fun u hu => by
            go_simp; rfl) ?_
          simp only [List.getElem_toArray, List.getElem_cons_zero, List.getElem_cons_succ, Act.put, List.setIfInBounds_toArray, List.set_cons_zero, List.set_cons_succ]
          refine c_take 5 _ _ rfl (by kernel_rfl) (by kernel_rfl) (by kernel_rfl) rfl (fun c a' w' h => ⟨(putC_defers _ _ _).symm.trans h.1, h.2⟩) ⟨R11.out, B11.out.below⟩ (fun u hu => by
            go_simp; rfl) ?_
          simp only [List.getElem_toArray, List.getElem_cons_zero, List.getElem_cons_succ, Act.put, List.setIfInBounds_toArray, List.set_cons_zero, List.set_cons_succ]
          refine c_take 6 _ _ rfl (by kernel_rfl) (by kernel_rfl) (by kernel_rfl) rfl (fun c a' w' h => ⟨(putC_defers _ _ _).symm.trans h.1, h.2⟩) ⟨R11.out, B11.out.below⟩ (fun u hu => by
            have c0 := (HFC.out u hu.2).1
            go_simp; rfl) ?_
          simp only [List.getElem_toArray, List.getElem_cons_zero, List.getElem_cons_succ, Act.put, List.setIfInBounds_toArray, List.set_cons_zero, List.set_cons_succ]
          refine c_take 8 _ _ rfl (by kernel_rfl) (by kernel_rfl) (by kernel_rfl) rfl (fun c a' w' h => ⟨(putC_defers _ _ _).symm.trans h.1, h.2⟩) ⟨R11.out, B11.out.below⟩ (fun u hu => by
            go_simp; rfl) ?_
          simp only [List.getElem_toArray, List.getElem_cons_zero, List.getElem_cons_succ, Act.put, List.setIfInBounds_toArray, List.set_cons_zero, List.set_cons_succ]
          refine c_take 9 _ _ rfl (by kernel_rfl) (by kernel_rfl) (by kernel_rfl) rfl (fun c a' w' h => ⟨(putC_defers _ _ _).symm.trans h.1, h.2⟩) ⟨R11.out, B11.out.below⟩ (fun u hu => by
            have q4 := (cell_of_row _ _ 4 _ _ _ hu.1).trans E4.out
            go_simp; rfl) ?_
          simp only [List.getElem_toArray, List.getElem_cons_zero, List.getElem_cons_succ, Act.put, List.setIfInBounds_toArray, List.set_cons_zero, List.set_cons_succ]
          refine c_take 10 _ _ rfl (by kernel_rfl) (by kernel_rfl) (by kernel_rfl) rfl (fun c a' w' h => ⟨(putC_defers _ _ _).symm.trans h.1, h.2⟩) ⟨R11.out, B11.out.below⟩ (fun u hu => by
            go_simp; rfl) ?_
          simp only [List.getElem_toArray, List.getElem_cons_zero, List.getElem_cons_succ, Act.put, List.setIfInBounds_toArray, List.set_cons_zero, List.set_cons_succ]
          refine c_take 11 _ _ rfl (by kernel_rfl) (by kernel_rfl) (by kernel_rfl) rfl (fun c a' w' h => ⟨(putC_defers _ _ _).symm.trans h.1, h.2⟩) ⟨R11.out, B11.out.below⟩ (fun u hu => by
            go_simp; rfl) ?_
          simp only [List.getElem_toArray, List.getElem_cons_zero, List.getElem_cons_succ, Act.put, List.setIfInBounds_toArray, List.set_cons_zero, List.set_cons_succ]
          refine c_take 12 _ _ rfl (by kernel_rfl) (by kernel_rfl) (by kernel_rfl) rfl (fun c a' w' h => ⟨(putC_defers _ _ _).symm.trans h.1, h.2⟩) ⟨R11.out, B11.out.below⟩ (fun u hu => by
            go_simp; rfl) ?_
          simp only [List.getElem_toArray, List.getElem_cons_zero, List.getElem_cons_succ, Act.put, List.setIfInBounds_toArray, List.set_cons_zero, List.set_cons_succ]
          refine c_take 13 _ _ rfl (by kernel_rfl) (by kernel_rfl) (by kernel_rfl) rfl (fun c a' w' h => ⟨(putC_defers _ _ _).symm.trans h.1, h.2⟩) ⟨R11.out, B11.out.below⟩ (fun u hu => by
            have c1 := (HFC.out u hu.2).2
            go_simp; rfl) ?_
          simp only [List.getElem_toArray, List.getElem_cons_zero, List.getElem_cons_succ, Act.put, List.setIfInBounds_toArray, List.set_cons_zero, List.set_cons_succ]
          refine c_only 7 _ rfl (by kernel_rfl) ?_
          go_simp
          refine (ltext_any fn B11.out (by have := HKL.out; have := HSZ.out; simp only [List.length_append]; omega)).mono ?_
          rintro e w_12 ⟨v_12, rfl, h_12⟩
          have B12 := hid h_12.out
          have R12 := hid (h_12.row R11.out fun _ _ => cls_no)
          clear h_12
          refine ⟨⟨R12.out, B12.out.below⟩, ?_⟩
          try simp only [List.getElem_toArray, List.getElem_cons_zero, List.getElem_cons_succ, Act.put, List.setIfInBounds_toArray, List.set_cons_zero, List.set_cons_succ]
          refine c_only 14 _ rfl (by kernel_rfl) ?_
          go_simp
          refine (ltext_any ft B12.out (by have := HKL.out; have := HSZ.out; simp only [List.length_append, tb_len]; omega)).mono ?_
          rintro e w_13 ⟨v_13, rfl, h_13⟩
          have B13 := hid h_13.out
          have R13 := hid (h_13.row R12.out fun _ _ => cls_no)
          clear h_13
          refine ⟨⟨R13.out, B13.out.below⟩, ?_⟩
          try simp only [List.getElem_toArray, List.getElem_cons_zero, List.getElem_cons_succ, Act.put, List.setIfInBounds_toArray, List.set_cons_zero, List.set_cons_succ]
          refine c_take 15 _ _ rfl (by kernel_rfl) (by kernel_rfl) (by kernel_rfl) rfl (fun c a' w' h => ⟨(putC_defers _ _ _).symm.trans h.1, h.2⟩) ⟨R13.out, B13.out.below⟩ (fun u hu => by
            go_simp; rfl) ?_
          simp only [List.getElem_toArray, List.getElem_cons_zero, List.getElem_cons_succ, Act.put, List.setIfInBounds_toArray, List.set_cons_zero, List.set_cons_succ]
          refine c_end (by kernel_rfl) ?_
          have T3 : Hid (BO w w_13 v_13 (G3 ++ (fields.take (k + 1)).flatMap fb)) := hid (by
            have := B13.out
            rw [HNX.out, show fb ⟨fn, ft⟩ = tb fn ++ tb ft from rfl]
            simpa only [List.append_assoc] using this)
          go_wp2
          go_roundw
          case rel => exact ⟨k + 1, by omega, by go_num, T3, R13⟩
          case measure => simp [intOf]; omega
        · have hge : ¬ (k : Int) < (fields.length : Int) := by omega
          have e : k = fields.length := by omega
          obtain ⟨w_14, hU0⟩ : ∃ W, W = wr := ⟨_, rfl⟩
          subst hU0
          have B14 : Hid (BO w w_14 u3 (G3 ++ fields.flatMap fb)) := hid (by have := B10.out; rwa [e, List.take_length] at this)
          have HKL3 : Hid ((fields.flatMap fb).length ≤ 20000000) := hid (by have := HKL.out; rwa [e, List.take_length] at this)
          have R14 := R10
          subst e
          clear B10 R10 hk HKL
          obtain ⟨G4, hGE⟩ : ∃ G4, G3 ++ fields.flatMap fb = G4 := ⟨_, rfl⟩
          rw [hGE] at B14
          have hG4 : G4.length ≤ 34000000 := by rw [← hGE, List.length_append]; have := HKL3.out; omega
          have HE4 := hid hGE
          clear hGE
          have B15 := B14
          have R15 := R14
          have q5 := (cell_of_row _ _ 5 _ _ _ R15.out).trans E5.out
          go_wp2_with (at_builtin; refine wpList_append_lit_b w _ _ _ rfl _ _ 30 rfl 5 (.int .u8 0) 1 1 1 Tryz.underlying30 infoB rfl (by decide) _ _ _ B15.out rfl rfl ?_ rfl ?_ ?_ ?_ ?_)
          all_goals first | (intro v_16 w_16 ho_16 hg_16 _) | omega | (simp [Value.oneCell']; done) | skip
          have GR16 : Hid (Grew w w_14 w_16 v_16 (G4 ++ [(mets.length : Int) % 256])) := hid ⟨by unfold BO; rw [List.length_append, List.map_append]; exact ho_16, kept_grown B15.out hg_16⟩
          have B16 := hid GR16.out.out
          have R16 := hid (GR16.out.row R15.out fun _ _ => cls_no)
          clear ho_16 hg_16 GR16
          clear q5
          obtain ⟨G5, hGE⟩ : ∃ G5, G4 ++ [(mets.length : Int) % 256] = G5 := ⟨_, rfl⟩
          rw [hGE] at B16
          have hG5 : G5.length ≤ 34000001 := by rw [← hGE]; simp; omega
          have HE5 := hid hGE
          clear hGE
          go_wp2_with fail
          go_loopw [3, 6] (fun v i wr => ∃ k : Nat, k ≤ mets.length ∧ i = .int .i64 k ∧ Hid (BO w wr v (G5 ++ (mets.take k).flatMap mb)) ∧ Hid (wr.heap[q]? = some (.cells RC 26))) (fun _ i _ => mets.length - (intOf i).toNat)
          case atStart => exact ⟨0, Nat.zero_le _, rfl, hid (by simpa using B16.out), R16⟩
          case round =>
            obtain ⟨k, hk, rfl, B20, R20⟩ := hrel
            have q5 := (cell_of_row _ _ 5 _ _ _ R20.out).trans E5.out
            have HKL : Hid (((mets.take k).flatMap mb).length ≤ 20000000000) := hid (by
              have h1 := flat_le mb 2020000000 (mets.take k) fun x hx => mb_len (HMG.out x (List.mem_of_mem_take hx))
              have h2 : (mets.take k).length ≤ 8 := by rw [List.length_take]; have := HMN.out; omega
              have h3 := Nat.mul_le_mul_right 2020000000 h2
              omega)
            by_cases hlt : k < mets.length
            · obtain ⟨bb, off, hab, hd0, hd1, hd2, hd3, hd4, hd5, hd6, hd7⟩ := met_at (HFM.out.below B20.out.below) hlt
              subst hab
              have hi : (0 : Int) ≤ (k : Int) := by omega
              have hkl : (k : Int) < (mets.length : Int) := by omega
              have HGM := hid (HMG.out _ (List.getElem_mem hlt))
              have HRM := hid (HMR.out _ (List.getElem_mem hlt))
              have HAT := hid (HFM.out.at_ _ (List.getElem_mem hlt))
              have HNX : Hid ((mets.take (k + 1)).flatMap mb = (mets.take k).flatMap mb ++ mb mets[k]) := hid (flat_take mb mets hlt)
              generalize mets[k] = x at hd0 hd1 hd2 hd3 hd4 hd5 hd6 hd7 HGM HAT HNX HRM
              obtain ⟨mn, mt, st, ab, pr, lo, vc, vh, code, hs⟩ := x
              simp only at hd0 hd1 hd2 hd3 hd4 hd5 hd6 hd7 HRM
              obtain ⟨ac, cc, hvc⟩ := HAT.out.code.val
              obtain ⟨ah, ch, hvh⟩ := HAT.out.hs.val
              simp only at hvc hvh
              subst hvc hvh
              obtain ⟨GM, hGE⟩ : ∃ GM, G5 ++ (mets.take k).flatMap mb = GM := ⟨_, rfl⟩
              rw [hGE] at B20
              have hGM : GM.length ≤ 20100000000 := by rw [← hGE, List.length_append]; have := HKL.out; omega
              have HEM := hid hGE
              clear hGE
              have HMN1 := hid (show mn.size ≤ 1048576 from HGM.out.small.nm)
              have HMT1 := hid (show mt.size ≤ 1048576 from HGM.out.small.ty)
              have HNU := hid (show ∀ x ∈ code, Small x ∧ InR x.a ∧ InR x.b from HGM.out.nums)
              have HEL := hid (show (encTo code code.length).length ≤ 2000000000 from enc_len HGM.out.code HGM.out.nums)
              have HHS := hid (show ∀ x ∈ hs, x.cls.size ≤ 1048576 from HGM.out.small.hs)
              have HHN := hid (show hs.length ≤ 8 from HGM.out.hlen)
              have hh8 : hs.length ≤ 1000000 := by have := HHN.out; omega
              obtain ⟨q', hq'⟩ : ∃ q', wr.heap.size = q' := ⟨_, rfl⟩
              obtain ⟨RM, hRM⟩ : ∃ RM : Array Value, #[.string mn, .string mt, .bool st, .bool ab, .bool pr, .int .i64 lo, .slice ac code.length cc, .slice ah hs.length ch] = RM := ⟨_, rfl⟩
              have F0 : Hid (RM[0]? = some (.string mn)) := hid (by rw [← hRM]; rfl)
              have F1 : Hid (RM[1]? = some (.string mt)) := hid (by rw [← hRM]; rfl)
              have F2 : Hid (RM[2]? = some (.bool st)) := hid (by rw [← hRM]; rfl)
              have F3 : Hid (RM[3]? = some (.bool ab)) := hid (by rw [← hRM]; rfl)
              have F4 : Hid (RM[4]? = some (.bool pr)) := hid (by rw [← hRM]; rfl)
              have F5 : Hid (RM[5]? = some (.int .i64 lo)) := hid (by rw [← hRM]; rfl)
              have F6 : Hid (RM[6]? = some (.slice ac code.length cc)) := hid (by rw [← hRM]; rfl)
              have F7 : Hid (RM[7]? = some (.slice ah hs.length ch)) := hid (by rw [← hRM]; rfl)
              obtain ⟨X1, hX1⟩ : ∃ X1, wr.alloc (.cells #[.string mn, .string mt, .bool st, .bool ab, .bool pr, .int .i64 lo, .slice ac code.length cc, .slice ah hs.length ch] 46) = X1 := ⟨_, rfl⟩
              have B21 : Hid (BO w X1.drew u3 GM) := hid (by subst hX1; exact (B20.out.alloc _).drew)
              have R21 : Hid (X1.drew.heap[q]? = some (.cells RC 26)) := hid (by subst hX1; exact ((ext_alloc wr _).block q (Array.getElem?_eq_some_iff.1 R20.out).1).trans R20.out)
              have M21 : Hid (X1.drew.heap[q']? = some (.cells RM 46)) := hid (by subst hX1; rw [← hq', ← hRM]; exact heap_alloc_new _ _)
              clear hRM
              go_wp2_with fail
              refine wp_region_c (fun u => u.heap[q']? = some (.cells RM 46)) (by kernel_rfl) ?_
              clear hX1 hq' hd0 hd1 hd2 hd3 hd4 hd5 hd6 hd7 q5
              refine c_take 0 _ _ rfl (by kernel_rfl) (by kernel_rfl) (by kernel_rfl) rfl (fun c a' w' h => ⟨(putC_defers _ _ _).symm.trans h.1, h.2⟩) M21.out (fun u hu => by
                go_simp; rfl) ?_
              simp only [List.getElem_toArray, List.getElem_cons_zero, List.getElem_cons_succ, Act.put, List.setIfInBounds_toArray, List.set_cons_zero, List.set_cons_succ]
              refine c_take 1 _ _ rfl (by kernel_rfl) (by kernel_rfl) (by kernel_rfl) rfl (fun c a' w' h => ⟨(putC_defers _ _ _).symm.trans h.1, h.2⟩) M21.out (fun u hu => by
                go_simp; rfl) ?_
              simp only [List.getElem_toArray, List.getElem_cons_zero, List.getElem_cons_succ, Act.put, List.setIfInBounds_toArray, List.set_cons_zero, List.set_cons_succ]
              refine c_take 2 _ _ rfl (by kernel_rfl) (by kernel_rfl) (by kernel_rfl) rfl (fun c a' w' h => ⟨(putC_defers _ _ _).symm.trans h.1, h.2⟩) M21.out (fun u hu => by
                have r0 := (cell_of_row _ _ 0 _ _ _ hu).trans F0.out
                go_simp; rfl) ?_
              simp only [List.getElem_toArray, List.getElem_cons_zero, List.getElem_cons_succ, Act.put, List.setIfInBounds_toArray, List.set_cons_zero, List.set_cons_succ]
              refine c_take 4 _ _ rfl (by kernel_rfl) (by kernel_rfl) (by kernel_rfl) rfl (fun c a' w' h => ⟨(putC_defers _ _ _).symm.trans h.1, h.2⟩) M21.out (fun u hu => by
                go_simp; rfl) ?_
              simp only [List.getElem_toArray, List.getElem_cons_zero, List.getElem_cons_succ, Act.put, List.setIfInBounds_toArray, List.set_cons_zero, List.set_cons_succ]
              refine c_take 5 _ _ rfl (by kernel_rfl) (by kernel_rfl) (by kernel_rfl) rfl (fun c a' w' h => ⟨(putC_defers _ _ _).symm.trans h.1, h.2⟩) M21.out (fun u hu => by
                have r1 := (cell_of_row _ _ 1 _ _ _ hu).trans F1.out
                go_simp; rfl) ?_
              simp only [List.getElem_toArray, List.getElem_cons_zero, List.getElem_cons_succ, Act.put, List.setIfInBounds_toArray, List.set_cons_zero, List.set_cons_succ]
              refine c_only 3 _ rfl (by kernel_rfl) ?_
              go_simp
              refine (ltext_any mn B21.out (by have := HMN1.out; omega)).mono ?_
              rintro e w_22 ⟨v_22, rfl, h_22⟩
              have B22 := hid h_22.out
              have R22 := hid (h_22.row R21.out fun _ _ => cls_no)
              have M22 := hid (h_22.row M21.out fun _ _ => met_no)
              clear h_22
              refine ⟨M22.out, ?_⟩
              try simp only [List.getElem_toArray, List.getElem_cons_zero, List.getElem_cons_succ, Act.put, List.setIfInBounds_toArray, List.set_cons_zero, List.set_cons_succ]
              refine c_only 6 _ rfl (by kernel_rfl) ?_
              go_simp
              refine (ltext_any mt B22.out (by have := HMN1.out; have := HMT1.out; simp only [List.length_append, tb_len]; omega)).mono ?_
              rintro e w_23 ⟨v_23, rfl, h_23⟩
              have B23 := hid h_23.out
              have R23 := hid (h_23.row R22.out fun _ _ => cls_no)
              have M23 := hid (h_23.row M22.out fun _ _ => met_no)
              clear h_23
              refine ⟨M23.out, ?_⟩
              try simp only [List.getElem_toArray, List.getElem_cons_zero, List.getElem_cons_succ, Act.put, List.setIfInBounds_toArray, List.set_cons_zero, List.set_cons_succ]
              refine c_take 7 _ _ rfl (by kernel_rfl) (by kernel_rfl) (by kernel_rfl) rfl (fun c a' w' h => ⟨(putC_defers _ _ _).symm.trans h.1, h.2⟩) M23.out (fun u hu => by
                go_simp; rfl) ?_
              simp only [List.getElem_toArray, List.getElem_cons_zero, List.getElem_cons_succ, Act.put, List.setIfInBounds_toArray, List.set_cons_zero, List.set_cons_succ]
              refine c_end (by kernel_rfl) ?_
              have HFL : Hid (GM.length + (tb mn ++ tb mt).length ≤ 20110000000) := hid (by have := HMN1.out; have := HMT1.out; simp only [List.length_append, tb_len]; omega)
              obtain ⟨f1', hf1⟩ : ∃ f : Int, (if st = true then 1 else 0) = f := ⟨_, rfl⟩
              obtain ⟨f2, hf2⟩ : ∃ f : Int, (if ab = true then 2 else 0) = f := ⟨_, rfl⟩
              obtain ⟨f4, hf4⟩ : ∃ f : Int, (if pr = true then 4 else 0) = f := ⟨_, rfl⟩
              have K1 := hid hf1
              have K2 := hid hf2
              have K4 := hid hf4
              have HBM : Hid (bit [st, ab, pr] = (f1' + f2 + f4) % 256) := hid (by rw [← hf1, ← hf2, ← hf4]; cases st <;> cases ab <;> cases pr <;> decide)
              have g1 : 0 ≤ f1' ∧ f1' ≤ 1 := by rw [← hf1]; split <;> omega
              have g2 : 0 ≤ f2 ∧ f2 ≤ 2 := by rw [← hf2]; split <;> omega
              have g4 : 0 ≤ f4 ∧ f4 ≤ 4 := by rw [← hf4]; split <;> omega
              have hw1 : IntKind.i64.wrap (f1' + f2) = f1' + f2 := by rw [IntKind.wrap_i64]; omega
              have hw2 : IntKind.i64.wrap (f1' + f2 + f4) = f1' + f2 + f4 := by rw [IntKind.wrap_i64]; omega
              clear hf1 hf2 hf4 g1 g2 g4
              obtain ⟨GN, hGE⟩ : ∃ GN, GM ++ tb mn ++ tb mt = GN := ⟨_, rfl⟩
              rw [hGE] at B23
              have hGN : GN.length ≤ 20110000000 := by rw [← hGE, List.append_assoc, List.length_append]; exact HFL.out
              have HEN := hid hGE
              clear hGE
              have HLM := hid (Array.getElem?_eq_some_iff.1 M23.out).1
              have HLC := hid (Array.getElem?_eq_some_iff.1 R23.out).1
              go_wp2_with fail
              refine wp_region_ext_tail 17 [(3, is (.int .i64 f1')), (6, is (.int .i64 f2)), (10, is (.int .i64 f4)), (16, oneB [(f1' + f2 + f4) % 256, lo % 256])] ⟨is_stays _, is_stays _, is_stays _, oneB_stays _, trivial⟩ (by kernel_rfl) (by kernel_rfl) ?_
              refine wpG_calc 1 rfl rfl rfl (fun u => by go_simp; rfl) ?_
              simp only [Act.put, List.setIfInBounds_toArray, List.set_cons_zero, List.set_cons_succ]
              refine wpG_calc 2 rfl rfl rfl (fun u => by go_simp; rfl) ?_
              simp only [Act.put, List.setIfInBounds_toArray, List.set_cons_zero, List.set_cons_succ]
              refine wpG_read 3 rfl rfl (.bool st) rfl ?_ ?_
              · intro u hu hh
                have r2 := (cell_of_row _ _ 2 _ _ _ ((hu.block q' HLM.out).trans M23.out)).trans F2.out
                go_simp
              simp only [Act.put, List.setIfInBounds_toArray, List.set_cons_zero, List.set_cons_succ]
              refine wpG_rel 4 rfl rfl rfl ?_ ?_
              · intro u hu hh
                clear hh
                go_simp
                refine (flag_any st 1 u).mono ?_
                rintro e u' ⟨rfl, rfl⟩
                exact ⟨_, rfl, by rw [K1.out]; rfl, Below.refl _ _⟩
              intro v3 ⟨u3, _, hr3⟩
              obtain rfl : v3 = .int .i64 f1' := hr3
              simp only [Act.put, List.setIfInBounds_toArray, List.set_cons_zero, List.set_cons_succ]
              refine wpG_calc 5 rfl rfl rfl (fun u => by go_simp; rfl) ?_
              simp only [Act.put, List.setIfInBounds_toArray, List.set_cons_zero, List.set_cons_succ]
              refine wpG_read 6 rfl rfl (.bool ab) rfl ?_ ?_
              · intro u hu hh
                have r3 := (cell_of_row _ _ 3 _ _ _ ((hu.block q' HLM.out).trans M23.out)).trans F3.out
                go_simp
              simp only [Act.put, List.setIfInBounds_toArray, List.set_cons_zero, List.set_cons_succ]
              refine wpG_rel 7 rfl rfl rfl ?_ ?_
              · intro u hu hh
                clear hh
                go_simp
                refine (flag_any ab 2 u).mono ?_
                rintro e u' ⟨rfl, rfl⟩
                exact ⟨_, rfl, by rw [K2.out]; rfl, Below.refl _ _⟩
              intro v6 ⟨u6, _, hr6⟩
              obtain rfl : v6 = .int .i64 f2 := hr6
              simp only [Act.put, List.setIfInBounds_toArray, List.set_cons_zero, List.set_cons_succ]
              refine wpG_calc (v := (.int .i64 (f1' + f2))) 8 rfl rfl rfl (fun u => by go_simp) ?_
              simp only [Act.put, List.setIfInBounds_toArray, List.set_cons_zero, List.set_cons_succ]
              refine wpG_calc 9 rfl rfl rfl (fun u => by go_simp; rfl) ?_
              simp only [Act.put, List.setIfInBounds_toArray, List.set_cons_zero, List.set_cons_succ]
              refine wpG_read 10 rfl rfl (.bool pr) rfl ?_ ?_
              · intro u hu hh
                have r4 := (cell_of_row _ _ 4 _ _ _ ((hu.block q' HLM.out).trans M23.out)).trans F4.out
                go_simp
              simp only [Act.put, List.setIfInBounds_toArray, List.set_cons_zero, List.set_cons_succ]
              refine wpG_rel 11 rfl rfl rfl ?_ ?_
              · intro u hu hh
                clear hh
                go_simp
                refine (flag_any pr 4 u).mono ?_
                rintro e u' ⟨rfl, rfl⟩
                exact ⟨_, rfl, by rw [K4.out]; rfl, Below.refl _ _⟩
              intro v10 ⟨u10, _, hr10⟩
              obtain rfl : v10 = .int .i64 f4 := hr10
              simp only [Act.put, List.setIfInBounds_toArray, List.set_cons_zero, List.set_cons_succ]
              refine wpG_calc (v := (.int .i64 (f1' + f2 + f4))) 12 rfl rfl rfl (fun u => by go_simp) ?_
              simp only [Act.put, List.setIfInBounds_toArray, List.set_cons_zero, List.set_cons_succ]
              refine wpG_calc 13 rfl rfl rfl (fun u => by go_simp; rfl) ?_
              simp only [Act.put, List.setIfInBounds_toArray, List.set_cons_zero, List.set_cons_succ]
              refine wpG_calc 14 rfl rfl rfl (fun u => by go_simp; rfl) ?_
              simp only [Act.put, List.setIfInBounds_toArray, List.set_cons_zero, List.set_cons_succ]
              refine wpG_read 15 rfl rfl (.int .i64 lo) rfl ?_ ?_
              · intro u hu hh
                have r5 := (cell_of_row _ _ 5 _ _ _ ((hu.block q' HLM.out).trans M23.out)).trans F5.out
                go_simp
              simp only [Act.put, List.setIfInBounds_toArray, List.set_cons_zero, List.set_cons_succ]
              refine wpG_calc 16 rfl rfl rfl (fun u => by go_simp; rfl) ?_
              simp only [Act.put, List.setIfInBounds_toArray, List.set_cons_zero, List.set_cons_succ]
              refine wpG_rel 17 rfl rfl rfl ?_ ?_
              · intro u hu hh
                clear hh
                go_simp
                exact ⟨Sl.lit u #[.int .u8 ((f1' + f2 + f4) % 256), .int .u8 (lo % 256)] 5 2 1 rfl, ext_alloc _ _⟩
              intro v16 ⟨u16, _, hr16⟩
              obtain ⟨a16, c16, hv16⟩ := Sl.val hr16
              clear hr16
              subst hv16
              simp only [Act.put, List.setIfInBounds_toArray, List.set_cons_zero, List.set_cons_succ]
              refine wpG_nil fun w24 hb24 hF => ?_
              have HONE : Hid (oneB [(f1' + f2 + f4) % 256, lo % 256] (.slice a16 [(f1' + f2 + f4) % 256, lo % 256].length c16) w24) := hid (hF 16)
              clear hF
              have B24 := hid (B23.out.later hb24)
              have R24 := hid ((hb24.block q HLC.out).trans R23.out)
              have M24 := hid ((hb24.block q' HLM.out).trans M23.out)
              clear hb24
              refine wpList_append_src w w24 rfl (.tmp 98) (.tmp 114) 30 rfl 5 (.int .u8 0) 1 1 2 Tryz.underlying30 infoB rfl (by decide) _ _ _ B24.out rfl (.slice a16 2 c16) _ HONE.out rfl (ones _) (by omega) (by omega) (fun v25 w25 ho25 hg25 => ?_)
              have GR25 : Hid (Grew w w24 w25 v25 (GN ++ [(f1' + f2 + f4) % 256, lo % 256])) := hid ⟨by unfold BO; rw [List.length_append, List.map_append]; exact ho25, kept_grown B24.out hg25⟩
              have B25 := hid GR25.out.out
              have R25 := hid (GR25.out.row R24.out fun _ _ => cls_no)
              have M25 := hid (GR25.out.row M24.out fun _ _ => met_no)
              clear ho25 hg25 GR25 HONE B24 R24 M24
              obtain ⟨GO, hGE⟩ : ∃ GO, GN ++ [(f1' + f2 + f4) % 256, lo % 256] = GO := ⟨_, rfl⟩
              rw [hGE] at B25
              have hGO : GO.length ≤ 20110000002 := by rw [← hGE]; simp; omega
              have HEO := hid hGE
              clear hGE
              have r6 := (cell_of_row _ _ 6 _ _ _ M25.out).trans F6.out
              go_wp2_with fail
              refine (rbytes_any _ code _ (HAT.out.code.below B25.out.below) HNU.out HRM.out.1 HRM.out.2).mono ?_
              rintro e w26 ⟨v26, rfl, ho26⟩
              have B26 := hid (B25.out.later ho26.below)
              have R26 := hid ((ho26.below.block q (Array.getElem?_eq_some_iff.1 R25.out).1).trans R25.out)
              have M26 := hid ((ho26.below.block q' (Array.getElem?_eq_some_iff.1 M25.out).1).trans M25.out)
              obtain ⟨C, hC⟩ : ∃ C, encTo code code.length = C := ⟨_, rfl⟩
              rw [hC] at ho26
              have HSL := hid ho26.sl
              have HCQ := hid hC
              have hCL : C.length ≤ 2000000000 := by rw [← hC]; exact HEL.out
              obtain ⟨a26, c26, hv26⟩ := ho26.sl.val
              subst hv26
              clear ho26 hC r6
              go_wp2_with (at_builtin; refine wpList_append_src w _ rfl _ _ 30 rfl 5 (.int .u8 0) 1 1 C.length Tryz.underlying30 infoB rfl (by decide) _ _ _ B26.out rfl _ _ HSL.out rfl (ones _) (by omega) (by omega) ?_)
              intro v27 w27 ho27 hg27
              have GR27 : Hid (Grew w w26 w27 v27 (GO ++ C)) := hid ⟨by unfold BO; rw [List.length_append, List.map_append]; exact ho27, kept_grown B26.out hg27⟩
              have B27 := hid GR27.out.out
              have R27 := hid (GR27.out.row R26.out fun _ _ => cls_no)
              have M27 := hid (GR27.out.row M26.out fun _ _ => met_no)
              clear ho27 hg27 GR27 HSL
              obtain ⟨GP, hGE⟩ : ∃ GP, GO ++ C = GP := ⟨_, rfl⟩
              rw [hGE] at B27
              have hGP : GP.length ≤ 23000000000 := by rw [← hGE, List.length_append]; omega
              have HEP := hid hGE
              clear hGE hCL
              have r7 := (cell_of_row _ _ 7 _ _ _ M27.out).trans F7.out
              go_wp2_with (at_builtin; refine wpList_append_lit_b w _ _ _ rfl _ _ 30 rfl 5 (.int .u8 0) 1 1 1 Tryz.underlying30 infoB rfl (by decide) _ _ _ B27.out rfl rfl ?_ rfl ?_ ?_ ?_ ?_)
              all_goals first | (intro v_28 w_28 ho_28 hg_28 _) | omega | (simp [Value.oneCell']; done) | skip
              have GR28 : Hid (Grew w w27 w_28 v_28 (GP ++ [(hs.length : Int) % 256])) := hid ⟨by unfold BO; rw [List.length_append, List.map_append]; exact ho_28, kept_grown B27.out hg_28⟩
              have B28 := hid GR28.out.out
              have R28 := hid (GR28.out.row R27.out fun _ _ => cls_no)
              have M28 := hid (GR28.out.row M27.out fun _ _ => met_no)
              clear ho_28 hg_28 GR28
              clear r7
              obtain ⟨GQ, hGE⟩ : ∃ GQ, GP ++ [(hs.length : Int) % 256] = GQ := ⟨_, rfl⟩
              rw [hGE] at B28
              have hGQ : GQ.length ≤ 23000000001 := by rw [← hGE]; simp; omega
              have HEQ := hid hGE
              clear hGE
              obtain ⟨wk, hwk⟩ : ∃ W, W = wr := ⟨_, rfl⟩
              subst hwk
              go_wp2_with fail
              go_loopw [3, 8] (fun v i wr => ∃ j : Nat, j ≤ hs.length ∧ i = .int .i64 j ∧ Hid (BO w wr v (GQ ++ (hs.take j).flatMap hb)) ∧ Hid (wr.heap[q]? = some (.cells RC 26)) ∧ Hid (wr.heap[q']? = some (.cells RM 46))) (fun _ i _ => hs.length - (intOf i).toNat)
              case atStart => exact ⟨0, Nat.zero_le _, rfl, hid (by simpa using B28.out), R28, M28⟩
              case round =>
                obtain ⟨j, hj, rfl, B30, R30, M30⟩ := hrel
                have r7 := (cell_of_row _ _ 7 _ _ _ M30.out).trans F7.out
                have HJL : Hid (((hs.take j).flatMap hb).length ≤ 10000000) := hid (by
                  have h1 := flat_le hb 1048580 (hs.take j) fun x hx => hb_len (HHS.out x (List.mem_of_mem_take hx))
                  have h2 : (hs.take j).length ≤ 8 := by rw [List.length_take]; have := HHN.out; omega
                  have h3 := Nat.mul_le_mul_right 1048580 h2
                  omega)
                by_cases hlj : j < hs.length
                · obtain ⟨b2, o2, hab, hc0, hc1, hc2, hc3⟩ := hd_at (HAT.out.hs.below B30.out.below) hlj
                  subst hab
                  have hi2 : (0 : Int) ≤ (j : Int) := by omega
                  have hkl2 : (j : Int) < (hs.length : Int) := by omega
                  have HSZ := hid (HHS.out _ (List.getElem_mem hlj))
                  have HNY : Hid ((hs.take (j + 1)).flatMap hb = (hs.take j).flatMap hb ++ hb hs[j]) := hid (flat_take hb hs hlj)
                  simp only at hc0 hc1 hc2 hc3
                  generalize hs[j] = x at hc0 hc1 hc2 hc3 HSZ HNY
                  obtain ⟨fr, tt, at_, cls⟩ := x
                  simp only at hc0 hc1 hc2 hc3 HSZ
                  obtain ⟨GR, hGE⟩ : ∃ GR, GQ ++ (hs.take j).flatMap hb = GR := ⟨_, rfl⟩
                  rw [hGE] at B30
                  have hGR : GR.length ≤ 23100000000 := by rw [← hGE, List.length_append]; have := HJL.out; omega
                  have HER := hid hGE
                  clear hGE
                  obtain ⟨q2, hq2⟩ : ∃ q2, wr.heap.size = q2 := ⟨_, rfl⟩
                  obtain ⟨X2, hX2⟩ : ∃ X2, wr.alloc (.cells #[.int .i64 fr, .int .i64 tt, .int .i64 at_, .string cls] 66) = X2 := ⟨_, rfl⟩
                  have B31 : Hid (BO w X2.drew u3 GR) := hid (by subst hX2; exact (B30.out.alloc _).drew)
                  have R31 : Hid (X2.drew.heap[q]? = some (.cells RC 26)) := hid (by subst hX2; exact ((ext_alloc wr _).block q (Array.getElem?_eq_some_iff.1 R30.out).1).trans R30.out)
                  have M31 : Hid (X2.drew.heap[q']? = some (.cells RM 46)) := hid (by subst hX2; exact ((ext_alloc wr _).block q' (Array.getElem?_eq_some_iff.1 M30.out).1).trans M30.out)
                  have D31 : Hid (X2.drew.heap[q2]? = some (.cells #[.int .i64 fr, .int .i64 tt, .int .i64 at_, .string cls] 66)) := hid (by subst hX2; rw [← hq2]; exact heap_alloc_new _ _)
                  go_wp2_with fail
                  refine wp_region_c (fun u => u.heap[q2]? = some (.cells #[.int .i64 fr, .int .i64 tt, .int .i64 at_, .string cls] 66)) (by kernel_rfl) ?_
                  clear hX2 hq2 hc0 hc1 hc2 hc3 r7
                  refine c_take 0 _ _ rfl (by kernel_rfl) (by kernel_rfl) (by kernel_rfl) rfl (fun c a' w' h => ⟨(putC_defers _ _ _).symm.trans h.1, h.2⟩) D31.out (fun u hu => by
                    go_simp; rfl) ?_
                  simp only [List.getElem_toArray, List.getElem_cons_zero, List.getElem_cons_succ, Act.put, List.setIfInBounds_toArray, List.set_cons_zero, List.set_cons_succ]
                  refine c_take 1 _ _ rfl (by kernel_rfl) (by kernel_rfl) (by kernel_rfl) rfl (fun c a' w' h => ⟨(putC_defers _ _ _).symm.trans h.1, h.2⟩) D31.out (fun u hu => by
                    go_simp; rfl) ?_
                  simp only [List.getElem_toArray, List.getElem_cons_zero, List.getElem_cons_succ, Act.put, List.setIfInBounds_toArray, List.set_cons_zero, List.set_cons_succ]
                  refine c_take 2 _ _ rfl (by kernel_rfl) (by kernel_rfl) (by kernel_rfl) rfl (fun c a' w' h => ⟨(putC_defers _ _ _).symm.trans h.1, h.2⟩) D31.out (fun u hu => by
                    have d0 := cell_of_row _ _ 0 _ _ _ hu
                    go_simp; rfl) ?_
                  simp only [List.getElem_toArray, List.getElem_cons_zero, List.getElem_cons_succ, Act.put, List.setIfInBounds_toArray, List.set_cons_zero, List.set_cons_succ]
                  refine c_take 3 _ _ rfl (by kernel_rfl) (by kernel_rfl) (by kernel_rfl) rfl (fun c a' w' h => ⟨(putC_defers _ _ _).symm.trans h.1, h.2⟩) D31.out (fun u hu => by
                    go_simp; rfl) ?_
                  simp only [List.getElem_toArray, List.getElem_cons_zero, List.getElem_cons_succ, Act.put, List.setIfInBounds_toArray, List.set_cons_zero, List.set_cons_succ]
                  refine c_take 4 _ _ rfl (by kernel_rfl) (by kernel_rfl) (by kernel_rfl) rfl (fun c a' w' h => ⟨(putC_defers _ _ _).symm.trans h.1, h.2⟩) D31.out (fun u hu => by
                    go_simp; rfl) ?_
                  simp only [List.getElem_toArray, List.getElem_cons_zero, List.getElem_cons_succ, Act.put, List.setIfInBounds_toArray, List.set_cons_zero, List.set_cons_succ]
                  refine c_take 5 _ _ rfl (by kernel_rfl) (by kernel_rfl) (by kernel_rfl) rfl (fun c a' w' h => ⟨(putC_defers _ _ _).symm.trans h.1, h.2⟩) D31.out (fun u hu => by
                    have d1 := cell_of_row _ _ 1 _ _ _ hu
                    go_simp; rfl) ?_
                  simp only [List.getElem_toArray, List.getElem_cons_zero, List.getElem_cons_succ, Act.put, List.setIfInBounds_toArray, List.set_cons_zero, List.set_cons_succ]
                  refine c_take 6 _ _ rfl (by kernel_rfl) (by kernel_rfl) (by kernel_rfl) rfl (fun c a' w' h => ⟨(putC_defers _ _ _).symm.trans h.1, h.2⟩) D31.out (fun u hu => by
                    go_simp; rfl) ?_
                  simp only [List.getElem_toArray, List.getElem_cons_zero, List.getElem_cons_succ, Act.put, List.setIfInBounds_toArray, List.set_cons_zero, List.set_cons_succ]
                  refine c_take 7 _ _ rfl (by kernel_rfl) (by kernel_rfl) (by kernel_rfl) rfl (fun c a' w' h => ⟨(putC_defers _ _ _).symm.trans h.1, h.2⟩) D31.out (fun u hu => by
                    go_simp; rfl) ?_
                  simp only [List.getElem_toArray, List.getElem_cons_zero, List.getElem_cons_succ, Act.put, List.setIfInBounds_toArray, List.set_cons_zero, List.set_cons_succ]
                  refine c_take 8 _ _ rfl (by kernel_rfl) (by kernel_rfl) (by kernel_rfl) rfl (fun c a' w' h => ⟨(putC_defers _ _ _).symm.trans h.1, h.2⟩) D31.out (fun u hu => by
                    have d2 := cell_of_row _ _ 2 _ _ _ hu
                    go_simp; rfl) ?_
                  simp only [List.getElem_toArray, List.getElem_cons_zero, List.getElem_cons_succ, Act.put, List.setIfInBounds_toArray, List.set_cons_zero, List.set_cons_succ]
                  refine c_take 9 _ _ rfl (by kernel_rfl) (by kernel_rfl) (by kernel_rfl) rfl (fun c a' w' h => ⟨(putC_defers _ _ _).symm.trans h.1, h.2⟩) D31.out (fun u hu => by
                    go_simp; rfl) ?_
                  simp only [List.getElem_toArray, List.getElem_cons_zero, List.getElem_cons_succ, Act.put, List.setIfInBounds_toArray, List.set_cons_zero, List.set_cons_succ]
                  refine c_take 12 _ _ rfl (by kernel_rfl) (by kernel_rfl) (by kernel_rfl) rfl (fun c a' w' h => ⟨(putC_defers _ _ _).symm.trans h.1, h.2⟩) D31.out (fun u hu => by
                    go_simp; rfl) ?_
                  simp only [List.getElem_toArray, List.getElem_cons_zero, List.getElem_cons_succ, Act.put, List.setIfInBounds_toArray, List.set_cons_zero, List.set_cons_succ]
                  refine c_take 13 _ _ rfl (by kernel_rfl) (by kernel_rfl) (by kernel_rfl) rfl (fun c a' w' h => ⟨(putC_defers _ _ _).symm.trans h.1, h.2⟩) D31.out (fun u hu => by
                    have d3 := cell_of_row _ _ 3 _ _ _ hu
                    go_simp; rfl) ?_
                  simp only [List.getElem_toArray, List.getElem_cons_zero, List.getElem_cons_succ, Act.put, List.setIfInBounds_toArray, List.set_cons_zero, List.set_cons_succ]
                  refine c_only 10 _ rfl (by kernel_rfl) ?_
                  go_simp
                  refine ⟨((ext_alloc X2.drew _).block q2 (Array.getElem?_eq_some_iff.1 D31.out).1).trans D31.out, ?_⟩
                  try simp only [List.getElem_toArray, List.getElem_cons_zero, List.getElem_cons_succ, Act.put, List.setIfInBounds_toArray, List.set_cons_zero, List.set_cons_succ]
                  refine c_only 11 _ rfl (by kernel_rfl) ?_
                  refine step_append_out w X2.drew #[.int .u8 (fr % 256), .int .u8 (tt % 256), .int .u8 (at_ % 256)] rfl _ _ 30 rfl 5 (.int .u8 0) 1 1 3 Tryz.underlying30 infoB rfl (by decide) _ _ _ B31.out rfl rfl rfl (by simp [Value.oneCell']) (by omega) (by omega) (fun v_32 w_32 ho hg => ?_)
                  have GR32 : Hid (Grew w X2.drew w_32 v_32 (GR ++ [fr % 256, tt % 256, at_ % 256])) := hid ⟨by unfold BO; rw [List.length_append, List.map_append]; exact ho, kept_grown B31.out hg⟩
                  have B32 := hid GR32.out.out
                  have R32 := hid (GR32.out.row R31.out fun _ _ => cls_no)
                  have M32 := hid (GR32.out.row M31.out fun _ _ => met_no)
                  have D32 := hid (GR32.out.row D31.out fun _ _ => hd_no)
                  clear ho hg GR32
                  refine ⟨D32.out, ?_⟩
                  try simp only [List.getElem_toArray, List.getElem_cons_zero, List.getElem_cons_succ, Act.put, List.setIfInBounds_toArray, List.set_cons_zero, List.set_cons_succ]
                  refine c_only 14 _ rfl (by kernel_rfl) ?_
                  go_simp
                  refine (ltext_any cls B32.out (by have := HSZ.out; simp only [List.length_append, List.length_cons, List.length_nil]; omega)).mono ?_
                  rintro e w_33 ⟨v_33, rfl, h_33⟩
                  have B33 := hid h_33.out
                  have R33 := hid (h_33.row R32.out fun _ _ => cls_no)
                  have M33 := hid (h_33.row M32.out fun _ _ => met_no)
                  have D33 := hid (h_33.row D32.out fun _ _ => hd_no)
                  clear h_33
                  refine ⟨D33.out, ?_⟩
                  try simp only [List.getElem_toArray, List.getElem_cons_zero, List.getElem_cons_succ, Act.put, List.setIfInBounds_toArray, List.set_cons_zero, List.set_cons_succ]
                  refine c_take 15 _ _ rfl (by kernel_rfl) (by kernel_rfl) (by kernel_rfl) rfl (fun c a' w' h => ⟨(putC_defers _ _ _).symm.trans h.1, h.2⟩) D33.out (fun u hu => by
                    go_simp; rfl) ?_
                  simp only [List.getElem_toArray, List.getElem_cons_zero, List.getElem_cons_succ, Act.put, List.setIfInBounds_toArray, List.set_cons_zero, List.set_cons_succ]
                  refine c_end (by kernel_rfl) ?_
                  have T3 : Hid (BO w w_33 v_33 (GQ ++ (hs.take (j + 1)).flatMap hb)) := hid (by
                    have := B33.out
                    rw [← HER.out] at this
                    rw [HNY.out, show hb ⟨fr, tt, at_, cls⟩ = [fr % 256, tt % 256, at_ % 256] ++ tb cls from rfl]
                    simpa only [List.append_assoc] using this)
                  go_wp2
                  go_roundw
                  case rel => exact ⟨j + 1, by omega, by go_num, T3, R33, M33⟩
                  case measure => simp [intOf]; omega
                · have hge : ¬ (j : Int) < (hs.length : Int) := by omega
                  have e : j = hs.length := by omega
                  have T4 : Hid (BO w wr u3 (G5 ++ (mets.take (k + 1)).flatMap mb)) := hid (by
                    have := B30.out
                    rw [e, List.take_length, ← HEQ.out, ← HEP.out, ← HEO.out, ← HEN.out, ← HEM.out, ← HBM.out, ← HCQ.out] at this
                    rw [HNX.out, show mb ⟨mn, mt, st, ab, pr, lo, .slice ac code.length cc, .slice ah hs.length ch, code, hs⟩ = tb mn ++ tb mt ++ [bit [st, ab, pr]] ++ [lo % 256] ++ encTo code code.length ++ [(hs.length : Int) % 256] ++ hs.flatMap hb from rfl]
                    simpa only [List.append_assoc, List.cons_append, List.nil_append] using this)
                  subst e
                  go_wp2
                  go_roundw
                  case rel => exact ⟨k + 1, by omega, by go_num, T4, R30⟩
                  case measure => simp [intOf]; omega
            · have hge : ¬ (k : Int) < (mets.length : Int) := by omega
              have e : k = mets.length := by omega
              have HFI : Hid (BO w wr u3 (cb ⟨nm, sup, .slice af faces.length cf, face, .slice ad fields.length cd, .slice am mets.length cm, faces, fields, mets⟩)) := hid (by
                have := B20.out
                rw [e, List.take_length, ← HE5.out, ← HE4.out, ← HE3.out, ← HE2.out, ← HE1.out, ← HE0.out, ← HBT.out] at this
                unfold cb
                simpa only [List.append_assoc, List.cons_append, List.nil_append] using this)
              subst e
              go_wp2
              go_ret
              exact ⟨_, rfl, HFI.out⟩
end Go.Proofs.YtcbefaaipggakaaGreatDoor.files
