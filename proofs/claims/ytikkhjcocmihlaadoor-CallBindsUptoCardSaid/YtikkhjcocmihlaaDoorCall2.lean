/- slices.Clone, slices.Delete, slices.Insert at []int: a copy; one element taken out of a slice of the call's own; one number put into it. Condition: the lists are not long. -/
import Derived.Test.YtikkhjcocmihlaaDoorInsert
import Derived.Test.YtikkhjcocmihlaaDoorCall1
namespace Go.Proofs.YtikkhjcocmihlaaDoor.hands
open Go.RowKit Go.Proofs.YtikkhjcocmihlaaDoor.lib Go.Proofs.YtikkhjcocmihlaaDoor.mtypes

def iv (n : Int) : Value := .int .i64 n
theorem iv_map (l : List Int) : l.map iv = l.map (.int .i64) := rfl
def lays21_ren : Go.Shelf.Ren := ⟨fun | 21 => 29 | 27 => 46 | 28 => 47 | 35 => 65 | 39 => 76 | n => n, fun | 22 => 22 | 3 => 3 | 4 => 4 | 0 => 0 | n => n, fun | n => n⟩
theorem lays21 : Go.Proofs.Lays2.n21 Tryd.prog lays21_ren := {
  mixed := by kernel_rfl
  f21 := Tryd.func29.trans (congrArg some (by kernel_rfl))
  f27 := Tryd.func46.trans (congrArg some (by kernel_rfl))
  f28 := Tryd.func47.trans (congrArg some (by kernel_rfl))
  f35 := Tryd.func65.trans (congrArg some (by kernel_rfl))
  f39 := Tryd.func76.trans (congrArg some (by kernel_rfl))
  t0 := Tryd.underlying0
  a0 := Tryd.isAgg0
  z0 := Tryd.sizeOf0
  v0 := Tryd.zeroValue0
  t3 := Tryd.underlying3
  a3 := Tryd.isAgg3
  z3 := Tryd.sizeOf3
  v3 := Tryd.zeroValue3
  t4 := Tryd.underlying4
  a4 := Tryd.isAgg4
  z4 := Tryd.sizeOf4
  v4 := Tryd.zeroValue4
  t22 := Tryd.underlying22
  a22 := Tryd.isAgg22
  z22 := Tryd.sizeOf22
  v22 := Tryd.zeroValue22
  i3 := by kernel_rfl }

theorem insI_cells (ts : List Int) (i : Nat) (t : Int) : (ts.map iv).take i ++ iv t :: (ts.map iv).drop i = (ts.take i ++ t :: ts.drop i).map iv := by
  rw [List.map_append, List.map_cons, List.map_take, List.map_drop]
theorem insI_len {ts : List Int} {i : Nat} (t : Int) (hi : i ≤ ts.length) : (ts.take i ++ t :: ts.drop i).length = ts.length + 1 := by
  rw [List.length_append, List.length_cons, List.length_take, List.length_drop]; omega


/-- slices.Clone of numbers -/
theorem cloneN_any (va : Value) (az : List Int) (w : World) (ha : Sl w va az.length 1 (az.map iv)) (hn : az.length ≤ 100000) :
    Calls Tryd.prog 28 #[va] w fun e w' => ∃ v', e = .returned v' ∧ Out w w' 3 1 v' az.length (az.map iv) := by
  obtain ⟨hl, a, c, rfl, hc, h⟩ := ha
  rcases h with h | ⟨b, off, rfl, h⟩
  · obtain rfl : az = [] := by simpa using h
    cases a with
    | none => exact (Tryd.slices_Clone_int_nil 0 c w).mono fun e w' ⟨h1, h2⟩ => ⟨_, h1, by subst h2; exact Out.nil _ _ _⟩
    | some a => exact (Tryd.slices_Clone_int_zero a c w).mono fun e w' ⟨v, h1, h2, _, h3⟩ => ⟨v, h1, h2, h3⟩
  · refine (Tryd.slices_Clone_int b off az.length c az w (Nat.le_refl _) (by omega) (fun j hj => h j _ ?_)).mono fun e w' ⟨v, h1, h2, _, h3⟩ => ⟨v, h1, by rw [List.take_length] at h2; exact h2, h3⟩
    rw [List.getElem?_map, List.getElem?_eq_getElem hj]
    simp [iv, List.getD, List.getElem?_eq_getElem hj]

/-- slices.Delete of one element of a slice of the call's own -/
theorem deleteN_any (va : Value) (ts : List Int) (i : Nat) (w0 w : World) (ho : Out w0 w 3 1 va ts.length (ts.map iv)) (hi : i < ts.length) :
    Calls Tryd.prog 27 #[va, .int .i64 (i : Int), .int .i64 ((i : Int) + 1)] w fun e w' => ∃ v, e = .returned v ∧ Out w0 w' 3 1 v (ts.length - 1) ((ts.eraseIdx i).map iv) := by
  have hown : w.ownsRow w0.heap.size 3 1 va ts.length (ts.map (Value.int .i64)) := ho.own
  have hv : va ≠ .slice none 0 0 := by
    rintro rfl
    have h := ho.sl
    obtain ⟨_, a, c, he, _, _⟩ := h
    simp only [Value.slice.injEq] at he
    omega
  · obtain ⟨g, cap, rfl, hgB, _, hcap, hmax, _, hH⟩ := Lib.holds_of_ownsRow hown hv
    have h := Tryd.slices_Delete_int g 0 cap i (i + 1) ts w hH hcap (by unfold maxLen at hmax; omega) (by omega) (by omega)
    refine h.mono ?_
    rintro e w' ⟨rfl, q, rfl⟩
    have hys : (ts.take i ++ ts.drop (i + 1) ++ List.replicate (i + 1 - i) 0).length = ts.length := by
      simp only [List.length_append, List.length_take, List.length_drop, List.length_replicate]; omega
    have hup := Lib.ownsRow_putRow (q := q) (k := ts.length - 1) hown hys (by omega)
    have htk : (ts.take i ++ ts.drop (i + 1) ++ List.replicate (i + 1 - i) 0).take (ts.length - 1) = ts.eraseIdx i := by
      rw [List.take_left' (by simp only [List.length_append, List.length_take, List.length_drop]; omega), List.eraseIdx_eq_take_drop_succ]
    rw [htk] at hup
    refine ⟨_, rfl, ?_, Lib.below_putRow ho.below hgB⟩
    rw [show ts.length - (i + 1 - i) = ts.length - 1 by omega]
    exact hup

/-- slices.Insert of one number, in a block of its own, into a slice of the call's own -/
theorem insertI_any (va : Value) (ts : List Int) (i : Nat) (t : Int) (vb : Nat) (w0 W : World) (hoW : Out w0 W 3 1 va ts.length (ts.map iv)) (hblk : W.heap[vb]? = some (.cells #[iv t] 3 (0, 0))) (hi : i ≤ ts.length) (h5 : ts.length ≤ 100000) :
    Calls Tryd.prog 29 #[va, .int .i64 (i : Int), .slice (some ⟨vb, 0, none⟩) 1 1] W fun e w' =>
      ∃ v, e = .returned v ∧ Sl w' v (ts.length + 1) 1 ((ts.take i ++ t :: ts.drop i).map iv) ∧ Below w0.heap.size w0 w' := by
  have hvs : ∀ (j : Nat) v, ([iv t] : List Value)[j]? = some v → W.cell? ⟨vb, 0 + j, none⟩ = some v := fun j v hj => by
    rw [Nat.zero_add, cell_of_row _ _ _ _ _ _ hblk]
    simpa using hj
  have h1v : ∀ v ∈ ([iv t] : List Value), v.oneCell' = true := fun v hv => by simp at hv; subst hv; simp [iv, Value.oneCell']
  have h1c : ∀ v ∈ ts.map iv, v.oneCell' = true := fun v hv => by
    obtain ⟨y, _, rfl⟩ := List.mem_map.1 hv
    simp [iv, Value.oneCell']
  have hlen : (ts.map iv).length = ts.length := List.length_map _
  have hnew : ∀ (H : Nat) (arr : Array Value), H = W.heap.size → (∀ j u, ((ts.take i ++ t :: ts.drop i).map iv)[j]? = some u → arr[j]? = some u) → ∀ c, ts.length + 1 ≤ c →
      Sl (W.drew.alloc (.cells arr 3)) (.slice (some ⟨H, 0, none⟩) (ts.length + 1) c) (ts.length + 1) 1 ((ts.take i ++ t :: ts.drop i).map iv) := fun H arr hH h c hc => by
    subst hH
    refine ⟨by rw [List.length_map, insI_len t hi, Nat.mul_one], _, _, rfl, hc, .inr ⟨_, _, rfl, fun j u hu => ?_⟩⟩
    rw [Nat.zero_add, World.cell?_alloc_at (w := W.drew) arr _ W.heap.size j rfl]
    exact h j u hu
  rcases hoW.own.2 with ⟨rfl, h0⟩ | ⟨g, cap, cur, rfl, hgB, hg, hcap, hmax, hcur, htake⟩
  · obtain rfl : ts = [] := List.eq_nil_of_length_eq_zero h0
    obtain rfl : i = 0 := by simpa using hi
    refine (Any2.slices_Insert_int_end_grow lays21 none 0 0 vb 0 1 1 [] [iv t] W (by decide) (by decide) (by decide) (by decide) rfl rfl (fun _ => rfl) (fun a ha => by cases ha) hvs h1v).mono ?_
    rintro e w' ⟨rfl, rfl⟩
    refine ⟨_, rfl, ?_, (hoW.below.drew).alloc (by exact hoW.below.size) _⟩
    exact hnew W.heap.size _ rfl (fun j u hu => by
      simp only [List.take_nil, List.drop_nil, List.nil_append, List.map_cons, List.map_nil] at hu
      rw [Array.getElem?_append_left (by have := (List.getElem?_eq_some_iff.1 hu).1; simpa using this)]
      simpa using hu) _ (grownCap_ge _ _ _ _)
  · have hgW : g < W.heap.size := (Array.getElem?_eq_some_iff.1 hg).1
    have hcell : ∀ j, j < cap → W.cell? ⟨g, j, none⟩ = cur[j]? := fun j _ => by simp [World.cell?, hg]
    have hsome : ∀ j, j < cap → (W.cell? ⟨g, j, none⟩).isSome = true := fun j hj => by
      rw [hcell j hj, Array.getElem?_eq_getElem (by omega)]; rfl
    have hfz : ∀ j, W.frozen? ⟨g, j, none⟩ = false := fun j => by simp [World.frozen?, hg]
    have hcs : ∀ j u, (ts.map iv)[j]? = some u → W.cell? ⟨g, j, none⟩ = some u := fun j u hu => by
      have := hoW.own.cells (g := g) rfl j u hu
      rwa [Addr.add_lit, Nat.zero_add] at this
    have hmm : cap ≤ 9223372036854775807 := by unfold maxLen at hmax; omega
    by_cases hroom : ts.length + 1 ≤ cap
    · by_cases hin : i = ts.length
      · subst hin
        refine (Any2.slices_Insert_int_end_room lays21 g 0 ts.length cap vb 0 1 1 [iv t] W (by decide) hroom hmm rfl (fun j hj => by rw [Nat.zero_add]; exact hsome _ (by omega)) (fun j _ => hfz _) hvs h1v).mono ?_
        rintro e w' ⟨rfl, rfl⟩
        refine ⟨_, rfl, ⟨by rw [List.length_map, insI_len t hi, Nat.mul_one], _, _, rfl, hroom, .inr ⟨_, _, rfl, fun j u hu => ?_⟩⟩, below_cells hgB _ _ hoW.below⟩
        rw [← insI_cells] at hu
        have h := read_shift (w := W) (b := g) (i := ts.length) (cs := ts.map iv) (x := iv t) (by rw [hlen]; exact Nat.le_refl _) (fun j hj => hsome j (by omega)) (fun j u _ h => hcs j u h) j u hu
        rw [List.drop_eq_nil_of_le (by rw [hlen]; exact Nat.le_refl _)] at h
        rw [Nat.zero_add, Nat.zero_add]
        exact h
      · have hil : i < ts.length := by omega
        have hne : vb ≠ g := fun h => by
          rw [h, hg] at hblk
          simp only [Option.some.injEq, Obj.cells.injEq] at hblk
          have := congrArg Array.size hblk.1
          simp at this
          omega
        refine (Any2.slices_Insert_int_shift lays21 g 0 ts.length cap i vb 0 1 1 (ts.map iv) [iv t] W hil (by decide) hroom hmm hne hlen rfl (fun j u hu => by rw [Nat.zero_add]; exact hcs j u hu) (fun j hj => by rw [Nat.zero_add]; exact hsome j (by omega)) (fun j _ => hfz _) hvs h1c h1v
          3 3 1 cap (by simp [World.shape?, hblk]) (by simp [World.shape?, hg, hcur]) (by omega) (by simp [World.frozen?, hblk]) (by simp [World.frozen?, hblk])).mono ?_
        rintro e w' ⟨rfl, rfl⟩
        refine ⟨_, rfl, ⟨by rw [List.length_map, insI_len t hi, Nat.mul_one], _, _, rfl, hroom, .inr ⟨_, _, rfl, fun j u hu => ?_⟩⟩, below_cells hgB _ _ (below_cells hgB _ _ hoW.below.drew)⟩
        rw [← insI_cells] at hu
        rw [Nat.zero_add, Nat.zero_add, Nat.zero_add]
        exact read_shift (w := W.drew) (b := g) (i := i) (cs := ts.map iv) (x := iv t) (by rw [hlen]; exact hi) (fun j hj => hsome j (by omega)) (fun j u _ h => hcs j u h) j u hu
    · by_cases hin : i = ts.length
      · subst hin
        refine (Any2.slices_Insert_int_end_grow lays21 (some ⟨g, 0, none⟩) ts.length cap vb 0 1 1 (ts.map iv) [iv t] W (by decide) hcap (by omega) (by omega) hlen rfl (fun h => by cases h) (fun a ha j u hu => by
          cases ha
          rw [Addr.add_lit, Nat.zero_add]
          exact hcs j u hu) hvs h1v).mono ?_
        rintro e w' ⟨rfl, rfl⟩
        refine ⟨_, rfl, ?_, (hoW.below.drew).alloc (by exact hoW.below.size) _⟩
        exact hnew W.heap.size _ rfl (fun j u hu => by
          rw [← insI_cells, List.take_of_length_le (by rw [hlen]; exact Nat.le_refl _), List.drop_eq_nil_of_le (by rw [hlen]; exact Nat.le_refl _)] at hu
          rw [Array.getElem?_append_left (by have := (List.getElem?_eq_some_iff.1 hu).1; simpa using this)]
          simpa using hu) _ (grownCap_ge _ _ _ _)
      · have hil : i < ts.length := by omega
        refine (Any2.slices_Insert_int_grow lays21 g 0 ts.length cap i vb 0 1 1 (ts.map iv) [iv t] W hil (by decide) hcap (by omega) (by omega) hlen rfl (fun j u hu => by rw [Nat.zero_add]; exact hcs j u hu) hvs h1c h1v).mono ?_
        rintro e w' ⟨rfl, rfl⟩
        refine ⟨_, rfl, ⟨by rw [List.length_map, insI_len t hi, Nat.mul_one], _, _, rfl, grownCap_ge _ _ _ _, .inr ⟨_, _, rfl, fun j u hu => ?_⟩⟩, ?_⟩
        · rw [← insI_cells] at hu
          rw [Nat.zero_add]
          refine read_grow (b := W.heap.size) (i := i) (cs := ts.map iv) (x := iv t) (by rw [hlen]; exact hi) (fun k hk => ?_) (fun k v hk hv => ?_) j u hu
          · show ((W.alloc _).cell? _).isSome = true
            rw [World.cell?_alloc_at _ _ _ _ rfl]
            rw [hlen] at hk
            rw [Array.getElem?_eq_getElem (by simp [Builtin.zeroCells, Value.cells]; omega)]; rfl
          · show (W.alloc _).cell? _ = _
            rw [World.cell?_alloc_at _ _ _ _ rfl]
            have hkl : k < (ts.map iv).length := by rw [hlen]; omega
            rw [Array.getElem?_append_left (by simp [Builtin.zeroCells, Value.cells]; omega), Array.getElem?_append_left (by simp; omega)]
            rw [List.getElem?_toArray, List.getElem?_take, if_pos hk]
            exact hv
        · exact below_cells hoW.below.size _ _ ((below_cells hoW.below.size _ _ ((hoW.below.alloc hoW.below.size _).drew)).drew)

end Go.Proofs.YtikkhjcocmihlaaDoor.hands
