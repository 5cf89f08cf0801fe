/- Handles that came in. No condition. -/
import Derived.Test.YtikkhjcocmihlaaDoorLaw
import Derived.OpenShut
import Derived.ProofKit
import Derived.Deep.Slices
import Derived.Deep.Fields
import Derived.DataReads
import Derived.Test.YtikkhjcocmihlaaDoorHand8
namespace Go.Proofs.YtikkhjcocmihlaaDoor.law
open Go.ChangeShapes Go.WideShapes Go.ChangeAt Go.RowKit Go.Deep Go.Proofs.YtikkhjcocmihlaaDoor.lib Go.Proofs.YtikkhjcocmihlaaDoor.hands

section
variable {H : Type} {enc : TypeId × Value → H} {P : Program} {T : Type} {cells : T → List Value} {sz : Nat}
theorem flatR_len (hlen : ∀ x, (cells x).length = sz) : ∀ l : List T, (l.flatMap cells).length = l.length * sz
  | [] => by simp
  | x :: l => by rw [List.flatMap_cons, List.length_append, hlen, flatR_len hlen l, List.length_cons, Nat.add_mul]; omega
theorem flatR_get (hlen : ∀ x, (cells x).length = sz) : ∀ (l : List T) (k j : Nat) (hk : k < l.length), j < sz → (l.flatMap cells)[k * sz + j]? = (cells l[k])[j]?
  | x :: l, 0, j, _, hj => by
    rw [List.flatMap_cons, List.getElem?_append_left (by rw [hlen]; omega), Nat.zero_mul, Nat.zero_add]; rfl
  | x :: l, k + 1, j, hk, hj => by
    have e : (k + 1) * sz + j = sz + (k * sz + j) := by rw [Nat.add_mul]; omega
    rw [List.flatMap_cons, List.getElem?_append_right (by rw [hlen, e]; omega), hlen, e, Nat.add_sub_cancel_left]
    have := flatR_get hlen l k j (by simpa using hk) hj
    rw [this]
    simp

set_option maxRecDepth 100000 in
/-- a slice whose elements are read by a law of what is within its datum -/
theorem rows_readIn {data : T → DataW H} {Good : T → Prop} (hI : Inhabited T) (hsz : 0 < sz) (hlen : ∀ x, (cells x).length = sz) {W : World} {spare : Nat → Bool} {held : Bool} {t e : TypeId} (ht : P.underlying t = some (.slice e)) (hc : P.cellsOf e = sz)
    {fuel : Nat} {v : Value} {y : DataW H × List MemPlace} (h : DataW.trod enc P W 0 spare held fuel t [v] = some y)
    (hcell : ∀ {n : Nat} {cs : List Value} {z : DataW H × List MemPlace}, (∃ l sp, y.1 = .slice l sp ∧ (z.1 ∈ l ∨ z.1 ∈ sp)) → DataW.trod enc P W 0 spare held n e cs = some z → ∃ x : T, cs = cells x ∧ z.1 = data x ∧ Good x) :
    ∃ l : List T, Sl W v l.length sz (l.flatMap cells) ∧ (∀ x ∈ l, Good x) ∧ (y.1 = .nil ∧ l = [] ∨ ∃ sp, y.1 = .slice (l.map data) sp) := by
  rcases open_slice ht h with ⟨hcs, hx⟩ | ⟨a, len, cap, m, n, D, Pl, hcs, _, hl, hm, hmm, hx, hi⟩
  · simp at hcs
    subst hcs
    subst hx
    exact ⟨[], ⟨by simp, _, _, rfl, Nat.le_refl _, .inl rfl⟩, by simp, .inl ⟨rfl, rfl⟩⟩
  · simp at hcs
    subst hcs
    have hml : len ≤ m := by rw [hmm]; split <;> omega
    rw [hc] at hi
    have hx2 : ∀ i, i < m → ∃ x : T, (∀ r, r < sz → W.cell? ((a.add (i * sz)).add r) = (cells x)[r]?) ∧ D i = data x ∧ Good x := fun i him => by
      obtain ⟨cs', hc, ht⟩ := hi i him
      obtain ⟨_, _, hat⟩ := World.cells?_some hc
      obtain ⟨x, rfl, hd, hh⟩ := hcell (z := (D i, Pl i)) (by
        refine ⟨_, _, by rw [hx], ?_⟩
        by_cases h : i < len
        · exact .inl (List.mem_map.2 ⟨i, List.mem_range.2 h, rfl⟩)
        · exact .inr (List.mem_map.2 ⟨i - len, List.mem_range.2 (by omega), by show D (len + (i - len)) = D i; rw [show len + (i - len) = i from by omega]⟩)) ht
      exact ⟨x, hat, hd, hh⟩
    obtain ⟨X, hX⟩ := choose_lt hx2
    subst hx
    refine ⟨(List.range len).map X, ⟨by rw [flatR_len hlen], _, _, by rw [List.length_map, List.length_range], by simpa using hl, ?_⟩, fun x hx => ?_, .inr ⟨(List.range (m - len)).map fun j => D (len + j), ?_⟩⟩
    · by_cases h0 : len = 0
      · exact .inl (by simp [h0])
      · refine .inr ?_
        obtain ⟨b, off, sp⟩ := a
        have hsp : sp = none := by
          have hc0 := (hX 0 (by omega)).1 0 hsz
          rw [List.getElem?_eq_getElem (by rw [hlen]; exact hsz)] at hc0
          have := World.cell?_spot hc0
          simp only [Addr.add] at this
          simpa using this
        subst hsp
        refine ⟨b, off, rfl, fun j u hu => ?_⟩
        have hj : j < len * sz := by have := (List.getElem?_eq_some_iff.1 hu).1; rw [flatR_len hlen, List.length_map, List.length_range] at this; exact this
        have hjl : j / sz < len := Nat.div_lt_of_lt_mul (by rw [Nat.mul_comm]; exact hj)
        have hjr : j % sz < sz := Nat.mod_lt _ hsz
        have hje : j / sz * sz + j % sz = j := by rw [Nat.mul_comm]; exact Nat.div_add_mod j sz
        have hg := flatR_get hlen ((List.range len).map X) (j / sz) (j % sz) (by simpa using hjl) hjr
        rw [hje, hu] at hg
        have := (hX (j / sz) (by omega)).1 (j % sz) hjr
        rw [Addr.add_lit, Addr.add_lit, Nat.add_assoc, hje] at this
        rw [this]
        simpa using hg.symm
    · obtain ⟨i, hi1, rfl⟩ := List.mem_map.1 hx
      exact (hX i (by have := List.mem_range.1 hi1; omega)).2.2
    · have he : (List.range len).map D = ((List.range len).map X).map data := by
        rw [List.map_map]
        apply List.map_congr_left
        intro i hi1
        exact (hX i (by have := List.mem_range.1 hi1; omega)).2.1
      rw [← he]
end

section
variable {H : Type} {enc : TypeId × Value → H}
def InI (z : Int) : Prop := -9223372036854775808 ≤ z ∧ z ≤ 9223372036854775807
/-- its texts and lists are not long, its numbers are numbers -/
def GoodF (B : Nat) : Fo → Prop
  | .nil => True
  | .cons _ t a _ _ ats subs rest => (t.size ≤ B ∧ t.size ≤ maxLen ∧ ats.length ≤ B ∧ InI a ∧ ∀ z ∈ ats, InI z) ∧ GoodF B subs ∧ GoodF B rest
def GoodN (B : Nat) (x : Nd) : Prop := (x.t.size ≤ B ∧ x.t.size ≤ maxLen ∧ x.ats.length ≤ B ∧ InI x.a ∧ ∀ z ∈ x.ats, InI z) ∧ GoodF B x.subs
theorem GoodF.mono {B C : Nat} (hBC : B ≤ C) : ∀ {F : Fo}, GoodF B F → GoodF C F
  | .nil, _ => trivial
  | .cons _ _ _ _ _ _ _ _, ⟨⟨h1, h2, h3, h4⟩, h5, h6⟩ => ⟨⟨Nat.le_trans h1 hBC, h2, Nat.le_trans h3 hBC, h4⟩, GoodF.mono hBC h5, GoodF.mono hBC h6⟩
theorem GoodN.mono {B C : Nat} (hBC : B ≤ C) {x : Nd} (h : GoodN B x) : GoodN C x := ⟨⟨Nat.le_trans h.1.1 hBC, h.1.2.1, Nat.le_trans h.1.2.2.1 hBC, h.1.2.2.2⟩, h.2.mono hBC⟩
def foOf : List Nd → Fo
  | [] => .nil
  | x :: l => .cons x.k x.t x.a x.va x.vs x.ats x.subs (foOf l)
theorem nodes_of : ∀ l : List Nd, nodes (foOf l) = l
  | [] => rfl
  | x :: l => by show _ :: nodes (foOf l) = _; rw [nodes_of l]
theorem at_of {w : World} : ∀ (l : List Nd), (∀ x ∈ l, NAt w x) → FAt w (foOf l)
  | [], _ => trivial
  | x :: l, h => ⟨(h x (List.mem_cons_self ..)).1, (h x (List.mem_cons_self ..)).2, at_of l fun y hy => h y (List.mem_cons_of_mem _ hy)⟩
theorem good_of {B : Nat} : ∀ (l : List Nd), (∀ x ∈ l, GoodN B x) → GoodF B (foOf l)
  | [], _ => trivial
  | x :: l, h => ⟨(h x (List.mem_cons_self ..)).1, (h x (List.mem_cons_self ..)).2, good_of l fun y hy => h y (List.mem_cons_of_mem _ hy)⟩
theorem cnt_of : ∀ (l : List (Nd × DataW H)), (∀ p ∈ l, cnt p.1 ≤ Rows.uptoBulk p.2) → cntF (foOf (l.map (·.1))) ≤ Rows.uptoBulkAll (l.map (·.2))
  | [], _ => Nat.zero_le _
  | p :: l, h => by
    have h1 := h p (List.mem_cons_self ..)
    have h2 := cnt_of l fun q hq => h q (List.mem_cons_of_mem _ hq)
    show 1 + cntF p.1.subs + cntF (foOf (l.map (·.1))) ≤ _
    simp only [List.map_cons, Rows.uptoBulkAll]
    unfold cnt at h1
    omega

theorem ch_int : Tryd.prog.cellsOf 3 = 1 := by kernel_rfl
theorem ch_str : Tryd.prog.cellsOf 9 = 1 := by kernel_rfl
theorem ch_ints : Tryd.prog.cellsOf 22 = 1 := by kernel_rfl
theorem ch_hs : Tryd.prog.cellsOf 23 = 1 := by kernel_rfl
theorem cells_hand : Tryd.prog.cellsOf 25 = 5 := by kernel_rfl
def intData (z : Int) : DataW H := .lit (.int .i64 z)
theorem int_cells {W : World} {spare : Nat → Bool} {held : Bool} {n : Nat} {cs : List Value} {y : DataW H × List MemPlace} (h : DataW.trod enc Tryd.prog W 0 spare held n 3 cs = some y) : ∃ z : Int, cs = [.int .i64 z] ∧ y.1 = intData z ∧ InI z := by
  obtain ⟨z0, e0, f0, g0⟩ := DataW.trod_int Tryd.underlying3 h
  exact ⟨z0, e0, by rw [f0]; rfl, wf_i64 g0⟩
theorem flat_int : ∀ (l : List Int), (l.flatMap fun x => [Value.int .i64 x]) = l.map (.int .i64)
  | [] => rfl
  | x :: l => by rw [List.flatMap_cons, flat_int l]; rfl
theorem part_size {l sp : List (DataW H)} {z : DataW H} (h : z ∈ l ∨ z ∈ sp) : SizeOf.sizeOf z < SizeOf.sizeOf (DataW.slice l sp) := by
  rcases h with h | h
  · have := List.sizeOf_lt_of_mem h
    simp only [DataW.slice.sizeOf_spec]; omega
  · have := List.sizeOf_lt_of_mem h
    simp only [DataW.slice.sizeOf_spec]; omega

set_option maxRecDepth 100000 in
theorem hand_cells {W : World} {spare : Nat → Bool} {held : Bool} : ∀ (N : Nat) {n : Nat} {cs : List Value} {y : DataW H × List MemPlace}, SizeOf.sizeOf y.1 ≤ N → DataW.trod enc Tryd.prog W 0 spare held n 25 cs = some y →
    ∃ x : Nd, cs = x.cells ∧ NAt W x ∧ GoodN (Rows.uptoBulk y.1) x ∧ cnt x ≤ Rows.uptoBulk y.1 := by
  intro N
  induction N with
  | zero =>
    intro n cs y hN
    exfalso
    obtain ⟨d, p⟩ := y
    have : 0 < SizeOf.sizeOf d := by cases d <;> simp <;> omega
    simp only at hN
    omega
  | succ N ih =>
    intro n cs y hN h
    obtain ⟨xs, k, _, hx, hlen, hxl, hf⟩ := DataW.trod_struct Tryd.underlying25 h
    have hl5 : cs.length = 5 := hlen.trans cells_hand
    match cs, hl5 with
    | [c0, c1, c2, c3, c4], _ =>
      match xs, hxl with
      | [y0, y1, y2, y3, y4], _ =>
        have h0 : DataW.trod enc Tryd.prog W 0 spare held k 3 (([c0, c1, c2, c3, c4].drop 0).take (Tryd.prog.cellsOf 3)) = some y0 := hf 0 _ rfl
        rw [ch_int] at h0
        have h1 : DataW.trod enc Tryd.prog W 0 spare held k 9 (([c0, c1, c2, c3, c4].drop 1).take (Tryd.prog.cellsOf 9)) = some y1 := hf 1 _ rfl
        rw [ch_str] at h1
        have h2 : DataW.trod enc Tryd.prog W 0 spare held k 3 (([c0, c1, c2, c3, c4].drop 2).take (Tryd.prog.cellsOf 3)) = some y2 := hf 2 _ rfl
        rw [ch_int] at h2
        have h3 : DataW.trod enc Tryd.prog W 0 spare held k 22 (([c0, c1, c2, c3, c4].drop 3).take (Tryd.prog.cellsOf 22)) = some y3 := hf 3 _ rfl
        rw [ch_ints] at h3
        have h4 : DataW.trod enc Tryd.prog W 0 spare held k 23 (([c0, c1, c2, c3, c4].drop 4).take (Tryd.prog.cellsOf 23)) = some y4 := hf 4 _ rfl
        rw [ch_hs] at h4
        obtain ⟨z0, e0, f0, g0⟩ := DataW.trod_int Tryd.underlying3 h0
        obtain ⟨z1, e1, f1, g1⟩ := DataW.trod_string Tryd.underlying9 h1
        obtain ⟨z2, e2, f2, g2⟩ := DataW.trod_int Tryd.underlying3 h2
        simp at e0 e1 e2
        subst e0 e1 e2
        have hsz : SizeOf.sizeOf y4.1 < SizeOf.sizeOf y.1 := by
          rw [hx]
          simp only [List.map_cons, List.map_nil, DataW.agg.sizeOf_spec, List.cons.sizeOf_spec]
          omega
        obtain ⟨l3, s3, i3, d3⟩ := rows_readIn (data := intData) (Good := InI) (cells := fun x : Int => [Value.int .i64 x]) ⟨0⟩ (by decide) (fun _ => rfl) Tryd.underlying22 ch_int (v := c3) h3 (fun _ h => int_cells h)
        obtain ⟨l4, s4, i4, d4⟩ := rows_readIn (T := Nd × DataW H) (data := fun p => p.2) (Good := fun p => NAt W p.1 ∧ GoodN (Rows.uptoBulk p.2) p.1 ∧ cnt p.1 ≤ Rows.uptoBulk p.2) (cells := fun p => p.1.cells) ⟨(⟨0, .empty, 0, .nilIface, .nilIface, [], .nil⟩, .nil)⟩ (by decide) (fun _ => rfl) Tryd.underlying23 cells_hand (v := c4) h4 (fun {n cs z} hin h => by
          obtain ⟨l, sp, he, hz⟩ := hin
          have := part_size hz
          rw [← he] at this
          obtain ⟨x, a1, a2, a3, a4⟩ := ih (by omega) h
          exact ⟨(x, z.1), a1, rfl, a2, a3, a4⟩)
        have hy : y.1 = .agg [.lit (.int .i64 z0), .lit (.string z1.data.toList), .lit (.int .i64 z2), y3.1, y4.1] := by rw [hx, f0, f1, f2]; rfl
        have hb3 : l3.length ≤ Rows.uptoBulk y3.1 := by
          rcases d3 with ⟨_, rfl⟩ | ⟨sp, e⟩
          · simp
          · rw [e]
            have := length_le (l3.map (intData (H := H)))
            simp only [List.length_map, Rows.uptoBulk] at this ⊢
            omega
        have hb4 : cntF (foOf (l4.map (·.1))) ≤ Rows.uptoBulk y4.1 ∧ ∀ p ∈ l4, Rows.uptoBulk p.2 ≤ Rows.uptoBulk y4.1 := by
          rcases d4 with ⟨_, rfl⟩ | ⟨sp, e⟩
          · exact ⟨Nat.zero_le _, by simp⟩
          · rw [e]
            have := cnt_of l4 fun p hp => (i4 p hp).2.2
            refine ⟨by simp only [Rows.uptoBulk]; omega, fun p hp => ?_⟩
            have := part_le (H := H) (d := p.2) (l := l4.map (·.2)) (List.mem_map_of_mem hp)
            simp only [Rows.uptoBulk]
            omega
        have hb1 := str_le (H := H) z1
        have hby : Rows.uptoBulk y.1 = Rows.uptoBulk (DataW.agg [.lit (.int .i64 z0), .lit (.string z1.data.toList), .lit (.int .i64 z2), y3.1, y4.1] : DataW H) := by rw [hy]
        simp only [Rows.uptoBulk, Rows.uptoBulkAll] at hby hb1
        obtain ⟨hb4, hb5⟩ := hb4
        refine ⟨⟨z0, z1, z2, c3, c4, l3, foOf (l4.map (·.1))⟩, rfl, ⟨⟨?_, ?_⟩, ?_⟩, ⟨⟨by show z1.size ≤ _; omega, g1, by show l3.length ≤ _; omega, wf_i64 g2, i3⟩, ?_⟩, ?_⟩
        · rw [flat_int] at s3; exact s3
        · rw [nodes_of, List.length_map, List.flatMap_map]; exact s4
        · exact at_of _ fun x hx => by
            obtain ⟨p, hp, rfl⟩ := List.mem_map.1 hx
            exact (i4 p hp).1
        · exact good_of _ fun x hx => by
            obtain ⟨p, hp, rfl⟩ := List.mem_map.1 hx
            exact (i4 p hp).2.1.mono (by have := hb5 p hp; omega)
        · show 1 + cntF (foOf (l4.map (·.1))) ≤ _
          omega

set_option maxRecDepth 100000 in
/-- a handle that came in -/
theorem arg_hand {W : World} {base : Nat} {spare : Nat → Bool} {v : Value} {d : DataW H} {ps : List MemPlace}
    (hok : Value.okWide Tryd.prog W .any base 25 v) (h : DataW.Trod enc Tryd.prog W 0 spare true 25 v d ps) :
    ∃ x : Nd, v = .agg x.cells.toArray ∧ NAt W x ∧ GoodN (Rows.uptoBulk d) x ∧ cnt x ≤ Rows.uptoBulk d := by
  obtain ⟨cs, rfl, _⟩ := okWide_struct Tryd.underlying25 hok
  obtain ⟨fuel, hf⟩ := h
  obtain ⟨x, hm, h1, h2, h3⟩ := hand_cells _ (Nat.le_refl _) hf
  exact ⟨x, by rw [← hm]; simp [Value.cells], h1, h2, h3⟩
end
theorem short_goodF {B : Nat} (hB : B ≤ 10000000) : ∀ {F : Fo}, GoodF B F → ShortF F
  | .nil, _ => trivial
  | .cons _ _ _ _ _ _ _ _, ⟨⟨h1, _⟩, h5, h6⟩ => ⟨Nat.le_trans h1 hB, short_goodF hB h5, short_goodF hB h6⟩
theorem short_good {B : Nat} {x : Nd} (h : GoodN B x) (hB : B ≤ 10000000) : ShortN x := ⟨Nat.le_trans h.1.1 hB, short_goodF hB h.2⟩
end Go.Proofs.YtikkhjcocmihlaaDoor.law
