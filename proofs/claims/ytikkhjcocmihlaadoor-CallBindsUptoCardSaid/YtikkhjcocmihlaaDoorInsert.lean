/- slices.Insert at []string, of one text, into a slice of the call's own. No condition. -/
import Derived.Test.YtikkhjcocmihlaaDoorMtype5
import Derived.Shelf.Spec.SlicesInsertGrow
namespace Go.Proofs.YtikkhjcocmihlaaDoor.mtypes
open Go.RowKit Go.Proofs.YtikkhjcocmihlaaDoor.lib Go.Proofs.YtikkhjcocmihlaaDoor.errs Go.Proofs.YtikkhjcocmihlaaDoor.names Go.Proofs.YtikkhjcocmihlaaDoor.texts Go.Proofs.YtikkhjcocmihlaaDoor.descs

def lays22_ren : Go.Shelf.Ren := ⟨fun | 22 => 52 | 29 => 67 | 30 => 68 | 36 => 80 | 17 => 86 | n => n, fun | 24 => 35 | 9 => 9 | 3 => 3 | 4 => 4 | 0 => 0 | n => n, fun | n => n⟩
theorem lays22 : Go.Proofs.Lays2.n22 Tryd.prog lays22_ren := {
  mixed := by kernel_rfl
  f17 := Tryd.func86.trans (congrArg some (by kernel_rfl))
  f22 := Tryd.func52.trans (congrArg some (by kernel_rfl))
  f29 := Tryd.func67.trans (congrArg some (by kernel_rfl))
  f30 := Tryd.func68.trans (congrArg some (by kernel_rfl))
  f36 := Tryd.func80.trans (congrArg some (by kernel_rfl))
  t0 := Tryd.underlying0
  a0 := Tryd.isAgg0
  z0 := Tryd.sizeOf0
  v0 := Tryd.zeroValue0
  t3 := Tryd.underlying3
  a3 := Tryd.isAgg3
  z3 := Tryd.sizeOf3
  v3 := Tryd.zeroValue3
  t4 := Tryd.underlying4
  a4 := Tryd.isAgg4
  z4 := Tryd.sizeOf4
  v4 := Tryd.zeroValue4
  t9 := Tryd.underlying9
  a9 := Tryd.isAgg9
  z9 := Tryd.sizeOf9
  v9 := Tryd.zeroValue9
  t24 := Tryd.underlying35
  a24 := Tryd.isAgg35
  z24 := Tryd.sizeOf35
  v24 := Tryd.zeroValue35
  i9 := by kernel_rfl }

theorem splice_at {cs : List Value} {x : Value} {i j : Nat} {u : Value} (hi : i ≤ cs.length) (h : (cs.take i ++ x :: cs.drop i)[j]? = some u) : (j < i ∧ cs[j]? = some u) ∨ (j = i ∧ x = u) ∨ (i < j ∧ (cs.drop i)[j - (i + 1)]? = some u) := by
  have hl : (cs.take i).length = i := by rw [List.length_take]; omega
  rcases Nat.lt_trichotomy j i with h1 | h1 | h1
  · rw [List.getElem?_append_left (by omega), List.getElem?_take, if_pos h1] at h
    exact .inl ⟨h1, h⟩
  · subst h1
    rw [List.getElem?_append_right (by omega), hl, Nat.sub_self] at h
    exact .inr (.inl ⟨rfl, by simpa using h⟩)
  · rw [List.getElem?_append_right (by omega), hl] at h
    obtain ⟨k, rfl⟩ : ∃ k, j = i + 1 + k := ⟨j - (i + 1), by omega⟩
    rw [show i + 1 + k - i = k + 1 by omega, List.getElem?_cons_succ] at h
    exact .inr (.inr ⟨h1, by rw [show i + 1 + k - (i + 1) = k by omega]; exact h⟩)

theorem read_shift {w : World} {b i : Nat} {cs : List Value} {x : Value} (hi : i ≤ cs.length) (hsome : ∀ j, j < cs.length + 1 → (w.cell? ⟨b, j, none⟩).isSome = true) (hold : ∀ j u, j < i → cs[j]? = some u → w.cell? ⟨b, j, none⟩ = some u) :
    ∀ j u, (cs.take i ++ x :: cs.drop i)[j]? = some u → ((w.setCells b (i + 1) (cs.drop i)).setCells b i [x]).cell? ⟨b, j, none⟩ = some u := by
  intro j u h
  have hdl : (cs.drop i).length = cs.length - i := List.length_drop
  rcases splice_at hi h with ⟨h1, h2⟩ | ⟨rfl, rfl⟩ | ⟨h1, h2⟩
  · rw [World.cell?_setCells_out b _ _ _ _ (fun _ _ => .inl h1), World.cell?_setCells_out b _ _ _ _ (fun _ _ => .inl (by show j < i + 1; omega))]
    exact hold j u h1 h2
  · have := World.cell?_setCells_in b [x] j (w.setCells b (j + 1) (cs.drop j)) (fun k hk => by
      simp only [List.length_cons, List.length_nil] at hk
      rw [World.cell?_setCells_out b _ _ _ _ (fun _ _ => .inl (by show j + k < j + 1; omega))]
      exact hsome _ (by omega)) 0 (by simp)
    simpa using this
  · have hj : j - (i + 1) < cs.length - i := by have := (List.getElem?_eq_some_iff.1 h2).1; omega
    rw [World.cell?_setCells_out b _ _ _ _ (fun _ _ => .inr (by show i + [x].length ≤ j; simp; omega))]
    have := World.cell?_setCells_in b (cs.drop i) (i + 1) w (fun k hk => hsome _ (by omega)) (j - (i + 1)) (by omega)
    rw [show i + 1 + (j - (i + 1)) = j by omega] at this
    rw [this, ← h2, List.getElem?_eq_getElem (by omega)]

theorem read_grow {w : World} {b i : Nat} {cs : List Value} {x : Value} (hi : i ≤ cs.length) (hsome : ∀ j, j < cs.length + 1 → (w.cell? ⟨b, j, none⟩).isSome = true) (hold : ∀ j u, j < i → cs[j]? = some u → w.cell? ⟨b, j, none⟩ = some u) :
    ∀ j u, (cs.take i ++ x :: cs.drop i)[j]? = some u → ((w.setCells b i [x]).drew.setCells b (i + 1) (cs.drop i)).cell? ⟨b, j, none⟩ = some u := by
  intro j u h
  have hdl : (cs.drop i).length = cs.length - i := List.length_drop
  rcases splice_at hi h with ⟨h1, h2⟩ | ⟨rfl, rfl⟩ | ⟨h1, h2⟩
  · rw [World.cell?_setCells_out b _ _ _ _ (fun _ _ => .inl (by show j < i + 1; omega))]
    show (w.setCells b i [x]).cell? _ = _
    rw [World.cell?_setCells_out b _ _ _ _ (fun _ _ => .inl h1)]
    exact hold j u h1 h2
  · rw [World.cell?_setCells_out b _ _ _ _ (fun _ _ => .inl (by show j < j + 1; omega))]
    show (w.setCells b j [x]).cell? _ = _
    have := World.cell?_setCells_in b [x] j w (fun k hk => by simp only [List.length_cons, List.length_nil] at hk; exact hsome _ (by omega)) 0 (by simp)
    simpa using this
  · have hj : j - (i + 1) < cs.length - i := by have := (List.getElem?_eq_some_iff.1 h2).1; omega
    have := World.cell?_setCells_in b (cs.drop i) (i + 1) (w.setCells b i [x]).drew (fun k hk => by
      show ((w.setCells b i [x]).cell? _).isSome = true
      rw [World.cell?_setCells_out b _ _ _ _ (fun _ _ => .inr (by show i + 1 ≤ i + 1 + k; omega))]
      exact hsome _ (by omega)) (j - (i + 1)) (by omega)
    rw [show i + 1 + (j - (i + 1)) = j by omega] at this
    rw [this, ← h2, List.getElem?_eq_getElem (by omega)]

theorem ins_cells (ts : List (List UInt8)) (i : Nat) (t : List UInt8) : (ts.map sv).take i ++ sv t :: (ts.map sv).drop i = (ts.take i ++ t :: ts.drop i).map sv := by
  rw [List.map_append, List.map_cons, List.map_take, List.map_drop]
theorem ins_len {ts : List (List UInt8)} {i : Nat} (t : List UInt8) (hi : i ≤ ts.length) : (ts.take i ++ t :: ts.drop i).length = ts.length + 1 := by
  rw [List.length_append, List.length_cons, List.length_take, List.length_drop]; omega

theorem below_cells {B b : Nat} (hb : B ≤ b) {a : World} : ∀ (vs : List Value) (o : Nat) {w : World}, Below B a w → Below B a (w.setCells b o vs)
  | [], _, _, h => h
  | v :: r, o, _, h => below_cells hb r (o + 1) (h.setCell (p := ⟨b, o, none⟩) hb v)

/-- slices.Insert of one text, made for the call, into a slice of the call's own -/
theorem insert_any (va : Value) (ts : List (List UInt8)) (i : Nat) (t : List UInt8) (w0 w : World) (ho : Out w0 w 9 1 va ts.length (ts.map sv)) (hi : i ≤ ts.length) (h5 : ts.length ≤ 5) :
    Calls Tryd.prog 52 #[va, .int .i64 (i : Int), .slice (some ⟨w.heap.size, 0, none⟩) 1 1] (w.alloc (.cells #[sv t] 9)) fun e w' =>
      ∃ v, e = .returned v ∧ Sl w' v (ts.length + 1) 1 ((ts.take i ++ t :: ts.drop i).map sv) ∧ Below w0.heap.size w0 w' := by
  obtain ⟨W, hW⟩ : ∃ W, w.alloc (.cells #[sv t] 9) = W := ⟨_, rfl⟩
  rw [hW]
  have hoW : Out w0 W 9 1 va ts.length (ts.map sv) := by rw [← hW]; exact ho.alloc _
  have hvs : ∀ (j : Nat) v, ([sv t] : List Value)[j]? = some v → W.cell? ⟨w.heap.size, 0 + j, none⟩ = some v := fun j v hj => by
    rw [← hW, Nat.zero_add, World.cell?_alloc_at _ _ _ _ rfl]
    simpa using hj
  have h1v : ∀ v ∈ ([sv t] : List Value), v.oneCell' = true := fun v hv => by simp at hv; subst hv; simp [sv, Value.oneCell']
  have h1c : ∀ v ∈ ts.map sv, v.oneCell' = true := fun v hv => by
    obtain ⟨y, _, rfl⟩ := List.mem_map.1 hv
    simp [sv, Value.oneCell']
  have hlen : (ts.map sv).length = ts.length := List.length_map _
  have hnew : ∀ (H : Nat) (arr : Array Value), H = W.heap.size → (∀ j u, ((ts.take i ++ t :: ts.drop i).map sv)[j]? = some u → arr[j]? = some u) → ∀ c, ts.length + 1 ≤ c →
      Sl (W.drew.alloc (.cells arr 9)) (.slice (some ⟨H, 0, none⟩) (ts.length + 1) c) (ts.length + 1) 1 ((ts.take i ++ t :: ts.drop i).map sv) := fun H arr hH h c hc => by
    subst hH
    refine ⟨by rw [List.length_map, ins_len t hi, Nat.mul_one], _, _, rfl, hc, .inr ⟨_, _, rfl, fun j u hu => ?_⟩⟩
    rw [Nat.zero_add, World.cell?_alloc_at (w := W.drew) arr _ W.heap.size j rfl]
    exact h j u hu
  rcases hoW.own.2 with ⟨rfl, h0⟩ | ⟨g, cap, cur, rfl, hgB, hg, hcap, hmax, hcur, htake⟩
  · obtain rfl : ts = [] := List.eq_nil_of_length_eq_zero h0
    obtain rfl : i = 0 := by simpa using hi
    refine (Any2.slices_Insert_string_end_grow lays22 none 0 0 w.heap.size 0 1 1 [] [sv t] W (by decide) (by decide) (by decide) (by decide) rfl rfl (fun _ => rfl) (fun a ha => by cases ha) hvs h1v).mono ?_
    rintro e w' ⟨rfl, rfl⟩
    refine ⟨_, rfl, ?_, (hoW.below.drew).alloc (by exact hoW.below.size) _⟩
    exact hnew W.heap.size _ rfl (fun j u hu => by
      simp only [List.take_nil, List.drop_nil, List.nil_append, List.map_cons, List.map_nil] at hu
      rw [Array.getElem?_append_left (by have := (List.getElem?_eq_some_iff.1 hu).1; simpa using this)]
      simpa using hu) _ (grownCap_ge _ _ _ _)
  · have hgW : g < W.heap.size := (Array.getElem?_eq_some_iff.1 hg).1
    have hgw : g < w.heap.size := (ho.own.lt g rfl).2
    have hcell : ∀ j, j < cap → W.cell? ⟨g, j, none⟩ = cur[j]? := fun j _ => by simp [World.cell?, hg]
    have hsome : ∀ j, j < cap → (W.cell? ⟨g, j, none⟩).isSome = true := fun j hj => by
      rw [hcell j hj, Array.getElem?_eq_getElem (by omega)]; rfl
    have hfz : ∀ j, W.frozen? ⟨g, j, none⟩ = false := fun j => by simp [World.frozen?, hg]
    have hcs : ∀ j u, (ts.map sv)[j]? = some u → W.cell? ⟨g, j, none⟩ = some u := fun j u hu => by
      have := hoW.own.cells (g := g) rfl j u hu
      rwa [Addr.add_lit, Nat.zero_add] at this
    have hmm : cap ≤ 9223372036854775807 := by unfold maxLen at hmax; omega
    have hne : w.heap.size ≠ g := by omega
    have hblk : W.heap[w.heap.size]? = some (.cells #[sv t] 9 (0, 0)) := by rw [← hW]; exact heap_alloc_new w _
    by_cases hroom : ts.length + 1 ≤ cap
    · by_cases hin : i = ts.length
      · subst hin
        refine (Any2.slices_Insert_string_end_room lays22 g 0 ts.length cap w.heap.size 0 1 1 [sv t] W (by decide) hroom hmm rfl (fun j hj => by rw [Nat.zero_add]; exact hsome _ (by omega)) (fun j _ => hfz _) hvs h1v).mono ?_
        rintro e w' ⟨rfl, rfl⟩
        refine ⟨_, rfl, ⟨by rw [List.length_map, ins_len t hi, Nat.mul_one], _, _, rfl, hroom, .inr ⟨_, _, rfl, fun j u hu => ?_⟩⟩, below_cells hgB _ _ hoW.below⟩
        rw [← ins_cells] at hu
        have h := read_shift (w := W) (b := g) (i := ts.length) (cs := ts.map sv) (x := sv t) (by rw [hlen]; exact Nat.le_refl _) (fun j hj => hsome j (by omega)) (fun j u _ h => hcs j u h) j u hu
        rw [List.drop_eq_nil_of_le (by rw [hlen]; exact Nat.le_refl _)] at h
        rw [Nat.zero_add, Nat.zero_add]
        exact h
      · have hil : i < ts.length := by omega
        refine (Any2.slices_Insert_string_shift lays22 g 0 ts.length cap i w.heap.size 0 1 1 (ts.map sv) [sv t] W hil (by decide) hroom hmm hne hlen rfl (fun j u hu => by rw [Nat.zero_add]; exact hcs j u hu) (fun j hj => by rw [Nat.zero_add]; exact hsome j (by omega)) (fun j _ => hfz _) hvs h1c h1v
          9 9 1 cap (by simp [World.shape?, hblk]) (by simp [World.shape?, hg, hcur]) (by omega) (by simp [World.frozen?, hblk]) (by simp [World.frozen?, hblk])).mono ?_
        rintro e w' ⟨rfl, rfl⟩
        refine ⟨_, rfl, ⟨by rw [List.length_map, ins_len t hi, Nat.mul_one], _, _, rfl, hroom, .inr ⟨_, _, rfl, fun j u hu => ?_⟩⟩, below_cells hgB _ _ (below_cells hgB _ _ hoW.below.drew)⟩
        rw [← ins_cells] at hu
        rw [Nat.zero_add, Nat.zero_add, Nat.zero_add]
        exact read_shift (w := W.drew) (b := g) (i := i) (cs := ts.map sv) (x := sv t) (by rw [hlen]; exact hi) (fun j hj => hsome j (by omega)) (fun j u _ h => hcs j u h) j u hu
    · by_cases hin : i = ts.length
      · subst hin
        refine (Any2.slices_Insert_string_end_grow lays22 (some ⟨g, 0, none⟩) ts.length cap w.heap.size 0 1 1 (ts.map sv) [sv t] W (by decide) hcap (by omega) (by omega) hlen rfl (fun h => by cases h) (fun a ha j u hu => by
          cases ha
          rw [Addr.add_lit, Nat.zero_add]
          exact hcs j u hu) hvs h1v).mono ?_
        rintro e w' ⟨rfl, rfl⟩
        refine ⟨_, rfl, ?_, (hoW.below.drew).alloc (by exact hoW.below.size) _⟩
        exact hnew W.heap.size _ rfl (fun j u hu => by
          rw [← ins_cells, List.take_of_length_le (by rw [hlen]; exact Nat.le_refl _), List.drop_eq_nil_of_le (by rw [hlen]; exact Nat.le_refl _)] at hu
          rw [Array.getElem?_append_left (by have := (List.getElem?_eq_some_iff.1 hu).1; simpa using this)]
          simpa using hu) _ (grownCap_ge _ _ _ _)
      · have hil : i < ts.length := by omega
        refine (Any2.slices_Insert_string_grow lays22 g 0 ts.length cap i w.heap.size 0 1 1 (ts.map sv) [sv t] W hil (by decide) hcap (by omega) (by omega) hlen rfl (fun j u hu => by rw [Nat.zero_add]; exact hcs j u hu) hvs h1c h1v).mono ?_
        rintro e w' ⟨rfl, rfl⟩
        refine ⟨_, rfl, ⟨by rw [List.length_map, ins_len t hi, Nat.mul_one], _, _, rfl, grownCap_ge _ _ _ _, .inr ⟨_, _, rfl, fun j u hu => ?_⟩⟩, ?_⟩
        · rw [← ins_cells] at hu
          rw [Nat.zero_add]
          refine read_grow (b := W.heap.size) (i := i) (cs := ts.map sv) (x := sv t) (by rw [hlen]; exact hi) (fun k hk => ?_) (fun k v hk hv => ?_) j u hu
          · show ((W.alloc _).cell? _).isSome = true
            rw [World.cell?_alloc_at _ _ _ _ rfl]
            rw [hlen] at hk
            rw [Array.getElem?_eq_getElem (by simp [Builtin.zeroCells, Value.cells]; omega)]; rfl
          · show (W.alloc _).cell? _ = _
            rw [World.cell?_alloc_at _ _ _ _ rfl]
            have hkl : k < (ts.map sv).length := by rw [hlen]; omega
            rw [Array.getElem?_append_left (by simp [Builtin.zeroCells, Value.cells]; omega), Array.getElem?_append_left (by simp; omega)]
            rw [List.getElem?_toArray, List.getElem?_take, if_pos hk]
            exact hv
        · exact below_cells hoW.below.size _ _ ((below_cells hoW.below.size _ _ ((hoW.below.alloc hoW.below.size _).drew)).drew)

end Go.Proofs.YtikkhjcocmihlaaDoor.mtypes
