/- Types of methods, changed: mtype.Permute. Condition: the texts are not long. -/
import Derived.Test.YtikkhjcocmihlaaDoorMtype1
namespace Go.Proofs.YtikkhjcocmihlaaDoor.mtypes
open Go.RowKit Go.Proofs.YtikkhjcocmihlaaDoor.lib Go.Proofs.YtikkhjcocmihlaaDoor.errs Go.Proofs.YtikkhjcocmihlaaDoor.names Go.Proofs.YtikkhjcocmihlaaDoor.texts Go.Proofs.YtikkhjcocmihlaaDoor.descs

/-- what a function on texts answers: a code, and a text -/
def Told (w : World) (r : Int × List UInt8) (e : Ending) (w' : World) : Prop := e = .returned (.tuple #[.string (bs r.2), errVal r.1]) ∧ Below w.heap.size w w'
theorem told_err {w w' : World} {r : Int × List UInt8} {z : Int} (h : r = (z, [])) (hz : z ≠ 0) (hb : Below w.heap.size w w') : Told w r (.returned (.tuple #[.string { data := #[] }, .iface 39 (.int .i64 z)])) w' := by
  subst h
  refine ⟨?_, hb⟩
  unfold errVal
  rw [if_neg hz]; rfl
theorem told_ok {w w' : World} {r : Int × List UInt8} {t : List UInt8} (h : r = (0, t)) (hb : Below w.heap.size w w') : Told w r (.returned (.tuple #[.string (bs t), .nilIface])) w' := by
  subst h
  exact ⟨rfl, hb⟩

def permuteOf (M A : List UInt8) (zs : List Int) : Int × List UInt8 :=
  match methodOf M with
  | none => (1, [])
  | some (ts, g) => match methodOf A with
    | none => (1, [])
    | some (ms, _) => if zs.length = ts.length then (if permErr ms zs ts = 0 then (0, makeText ms g) else (permErr ms zs ts, [])) else (8, [])

theorem permBy_cases {w w' : World} {A : List UInt8} {ts : List (List UInt8)} {zs : List Int} {e : Ending} (h : PermBy w A ts zs e w') : Below w.heap.size w w' ∧
    ((∃ z, z ≠ 0 ∧ e = .returned (.tuple #[.slice none 0 0, .iface 39 (.int .i64 z)]) ∧ ∀ M g, methodOf M = some (ts, g) → permuteOf M A zs = (z, [])) ∨
     (∃ v ms g', e = .returned (.tuple #[v, .nilIface]) ∧ methodOf A = some (ms, g') ∧ Sl w' v ms.length 1 (ms.map sv) ∧ ∀ M g, methodOf M = some (ts, g) → permuteOf M A zs = (0, makeText ms g))) := by
  obtain ⟨hb, h⟩ := h
  refine ⟨hb, ?_⟩
  cases hm : methodOf A with
  | none =>
    rw [hm] at h
    exact .inl ⟨1, by decide, h, fun M g hM => by simp only [permuteOf, hM, hm]⟩
  | some r =>
    obtain ⟨ms, g'⟩ := r
    rw [hm] at h
    simp only at h
    by_cases hl : zs.length = ts.length
    · rw [if_pos hl] at h
      by_cases hp : permErr ms zs ts = 0
      · rw [if_pos hp] at h
        obtain ⟨v, h1, h2⟩ := h
        exact .inr ⟨v, ms, g', h1, rfl, h2, fun M g hM => by simp only [permuteOf, hM, hm, if_pos hl, if_pos hp]⟩
      · rw [if_neg hp] at h
        exact .inl ⟨_, hp, h, fun M g hM => by simp only [permuteOf, hM, hm, if_pos hl, if_neg hp]⟩
    · rw [if_neg hl] at h
      exact .inl ⟨8, by decide, h, fun M g hM => by simp only [permuteOf, hM, hm, if_neg hl]⟩

theorem fault_two {M A g g' : List UInt8} {ts ms : List (List UInt8)} (h1 : methodOf M = some (ts, g)) (h2 : methodOf A = some (ms, g')) : makeFault ms g = 0 := by
  obtain ⟨f1, _⟩ := make_method h1
  obtain ⟨f2, _⟩ := make_method h2
  obtain ⟨_, _, _, _, hg⟩ := text_small f1
  obtain ⟨h5, hall, _, _, _⟩ := text_small f2
  unfold makeFault
  rw [if_neg (by omega), if_pos ⟨hall, hg⟩]

theorem types_small {M g : List UInt8} {ts : List (List UInt8)} (h : methodOf M = some (ts, g)) : ts.length ≤ 5 ∧ g.length ≤ 25 ∧ ∀ x ∈ ts.map bs, x.size ≤ 9223372036854775807 := by
  obtain ⟨f1, _⟩ := make_method h
  obtain ⟨h5, hall, hg, _, _⟩ := text_small f1
  refine ⟨h5, hg, fun x hx => ?_⟩
  obtain ⟨y, hy, rfl⟩ := List.mem_map.1 hx
  have := (ty_append (List.all_eq_true.1 hall y hy) []).2.1
  rw [bs_size]; omega

/-- Make of types that read so -/
theorem make_types (va : Value) (ts : List (List UInt8)) (g : List UInt8) (w : World) (ha : Sl w va ts.length 1 (ts.map sv)) (hz : ∀ x ∈ ts.map bs, x.size ≤ 9223372036854775807) (hg : g.length ≤ 9223372036854775807) :
    Calls Tryd.prog 49 #[va, .string (bs g)] w (MakeBy w ts g) := by
  have h := make_any va (ts.map bs) (bs g) w (by rw [List.length_map, ← sv_map]; exact ha) hz hg
  rw [raw_bs] at h
  exact h

set_option maxRecDepth 100000 in
set_option maxHeartbeats 2000000 in
theorem changed_perm (M A : ByteArray) (vz : Value) (zs : List Int) (b1 b2 : Nat) (w : World) (hM : M.size ≤ 10000000) (hA : A.size ≤ 10000000) (hz : Sl w vz zs.length 1 (zs.map (.int .i64)))
    (hc1 : w.cell? ⟨b1, 0, none⟩ = some (.string A)) (hc2 : w.cell? ⟨b2, 0, none⟩ = some vz) :
    Calls Tryd.prog 50 #[.string M, .func (.func 53) #[] #[.pointer (some ⟨b1, 0, none⟩), .pointer (some ⟨b2, 0, none⟩)]] w (Told w (permuteOf M.data.toList A.data.toList zs)) := by
  have HZ := hid hz
  have HC1 := hid hc1; have HC2 := hid hc2
  clear hz hc1 hc2
  cases hm : methodOf M.data.toList with
  | none =>
    have HM := hid hm
    have HN : Hid (permuteOf M.data.toList A.data.toList zs = (1, [])) := hid (by simp only [permuteOf, hm])
    clear hm
    go_enter Tryd.func50, Tryd.ntmps50
    go_wp2_with fail
    refine (method_any M _ hM).mono ?_
    intro e w1 h1
    obtain ⟨rfl, hb1⟩ := methodBy_none HM.out h1
    clear h1
    go_wp2_with fail
    go_ret2
    exact told_err HN.out (by decide) hb1
  | some r =>
    obtain ⟨ts, g⟩ := r
    have HM := hid hm
    obtain ⟨hn5, hg25, _⟩ := types_small hm
    clear hm
    go_enter Tryd.func50, Tryd.ntmps50
    go_wp2_with fail
    refine (method_any M _ hM).mono ?_
    intro e w1 h1
    obtain ⟨v, rfl, ho⟩ := methodBy_some HM.out h1
    clear h1
    have HS := hid ho.sl
    have hb1 := ho.below
    obtain ⟨a1, c1, rfl⟩ := HS.out.val
    clear ho
    have HZ1 := hid (HZ.out.below hb1)
    have HD1 : Hid (w1.cell? ⟨b1, 0, none⟩ = some (.string A)) := hid (by rw [hb1.cell (World.block_lt_of_cell? w _ HC1.out)]; exact HC1.out)
    have HD2 : Hid (w1.cell? ⟨b2, 0, none⟩ = some vz) := hid (by rw [hb1.cell (World.block_lt_of_cell? w _ HC2.out)]; exact HC2.out)
    go_wp2_with fail
    refine (perm_any _ vz A ts zs b1 b2 w1 HS.out HZ1.out hA hn5 HD1.out HD2.out).mono ?_
    intro e w2 h2
    obtain ⟨hb2, ⟨z, hz0, rfl, hp⟩ | ⟨v2, ms, g', rfl, hmA, hs2, hp⟩⟩ := permBy_cases h2
    · have HP := hid (hp _ _ HM.out)
      have HZ0 := hid hz0
      clear h2 hp hz0
      go_wp2_with fail
      go_ret2
      exact told_err HP.out HZ0.out (hb1.trans (hb2.mono hb1.size))
    · have HP := hid (hp _ _ HM.out)
      have HF := hid (fault_two HM.out hmA)
      have HT := hid (types_small hmA).2.2
      have HS2 := hid hs2
      have hb2 := hb1.trans (hb2.mono hb1.size)
      obtain ⟨a2, c2, rfl⟩ := hs2.val
      clear h2 hp hmA hs2
      go_wp2_with fail
      refine (make_types _ ms g w2 HS2.out HT.out (by omega)).mono ?_
      intro e w3 h3
      obtain ⟨rfl, hb3⟩ := makeBy_good h3 HF.out
      clear h3
      go_wp2_with fail
      go_ret2
      exact told_ok HP.out (hb2.trans (hb3.mono hb2.size))

set_option maxHeartbeats 1000000 in
theorem permute_any (M A : ByteArray) (vz : Value) (zs : List Int) (w : World) (hM : M.size ≤ 10000000) (hA : A.size ≤ 10000000) (hz : Sl w vz zs.length 1 (zs.map (.int .i64))) :
    Calls Tryd.prog 33 #[.string M, vz, .string A] w (Told w (permuteOf M.data.toList A.data.toList zs)) := by
  obtain ⟨b, d, rfl⟩ := hz.val
  have HZ := hid hz
  clear hz
  have hbl := (ext_alloc w (.cells #[.slice b zs.length d] 22)).alloc (ext_alloc w (.cells #[.slice b zs.length d] 22)).size (.cells #[.string A] 9)
  have HBL := hid hbl
  have HZ2 := hid (HZ.out.below hbl)
  have h1 : ((w.alloc (.cells #[.slice b zs.length d] 22)).alloc (.cells #[.string A] 9)).cell? ⟨w.heap.size + 1, 0, none⟩ = some (.string A) := by
    rw [show w.heap.size + 1 = (w.alloc (.cells #[.slice b zs.length d] 22)).heap.size from by simp, World.cell?_alloc_at _ _ _ _ rfl]; rfl
  have h2 : ((w.alloc (.cells #[.slice b zs.length d] 22)).alloc (.cells #[.string A] 9)).cell? ⟨w.heap.size, 0, none⟩ = some (.slice b zs.length d) := by
    rw [(ext_alloc (w.alloc (.cells #[.slice b zs.length d] 22)) (.cells #[.string A] 9)).cell (by simp), World.cell?_alloc_at _ _ _ _ rfl]; rfl
  have H1 := hid h1; have H2 := hid h2
  clear hbl h1 h2
  go_enter Tryd.func33, Tryd.ntmps33
  go_wp2_with fail
  refine (changed_perm M A _ zs _ _ _ hM hA HZ2.out H1.out H2.out).mono ?_
  rintro e w1 ⟨rfl, hb1⟩
  go_wp2_with fail
  go_ret2
  exact ⟨rfl, HBL.out.trans (hb1.mono HBL.out.size)⟩

end Go.Proofs.YtikkhjcocmihlaaDoor.mtypes
