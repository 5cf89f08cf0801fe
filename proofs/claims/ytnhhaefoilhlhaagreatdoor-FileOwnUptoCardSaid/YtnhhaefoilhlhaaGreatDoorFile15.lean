/- file.list at methods: the walk. Conditions as for the reader; and those of code.Cut. -/
import Derived.Test.YtnhhaefoilhlhaaGreatDoorFile14
import Derived.Test.YtnhhaefoilhlhaaGreatDoorFile4
import Derived.Defers
import Derived.Recover
set_option linter.unusedSimpArgs false
set_option linter.unusedVariables false
namespace Go.Proofs.YtnhhaefoilhlhaaGreatDoor.files
open Go.RowKit Go.Proofs.YtnhhaefoilhlhaaGreatDoor.lib Go.Proofs.YtnhhaefoilhlhaaGreatDoor.errs Go.Proofs.YtnhhaefoilhlhaaGreatDoor.names Go.Proofs.YtnhhaefoilhlhaaGreatDoor.descs Go.Proofs.YtnhhaefoilhlhaaGreatDoor.ins Go.Proofs.YtnhhaefoilhlhaaGreatDoor.flows Go.Proofs.YtnhhaefoilhlhaaGreatDoor.hdls Go.Proofs.YtnhhaefoilhlhaaGreatDoor.classes Go.Proofs.YtnhhaefoilhlhaaGreatDoor.txts Go.Proofs.YtnhhaefoilhlhaaGreatDoor.nums Go.Proofs.YtnhhaefoilhlhaaGreatDoor.keep

theorem infoM : (Tryz.prog.info? 59).map (fun i => (i.zero, i.size, i.bytes)) = some (some (.agg #[.string { data := #[] }, .string { data := #[] }, .bool false, .bool false, .bool false, .int .i64 0, .slice none 0 0, .slice none 0 0]), 8, 96) := by kernel_rfl
/-- a method's slices are the call's own -/
def OwnM (B : Nat) (m : MV) (u : World) : Prop := u.ownsRow B 109 6 m.vc m.code.length (cellsOf m.code) ∧ u.ownsRow B 90 4 m.vh m.hs.length (m.hs.flatMap Hd.cells)
/-- and lie apart from a list's block -/
def ApartE (B : Nat) (X : List MV) (v : Value) (u : World) : Prop := ∀ m ∈ X, OwnM B m u ∧ ∀ j, (m.vc.ownBlock = some j ∨ m.vh.ownBlock = some j) → v.ownBlock ≠ some j
structure ApartL (B : Nat) (X : List MV) (v : Value) (u : World) : Prop where
  own : u.ownsRow B 59 8 v X.length (X.flatMap MV.cells)
  each : ApartE B X v u
theorem owns_down {w : World} {B B' : Nat} {e : TypeId} {size n : Nat} {v : Value} {xs : List Value} (h : w.ownsRow B e size v n xs) (hB : B' ≤ B) : w.ownsRow B' e size v n xs := owns_keeps (F := fun _ => False) h (Keeps.refl _ _) (fun _ _ h => h) hB
/-- a list of methods that the call has made -/
def MadeL (B : Nat) (l : List MV) (v : Value) (u : World) : Prop := ∃ X : List MV, X.map bare = l ∧ u.ownsRow B 59 8 v X.length (X.flatMap MV.cells) ∧ ∀ m ∈ X, OwnM B m u
theorem apartL_nil (B : Nat) (u : World) : ApartL B [] (.slice none 0 0) u := ⟨World.ownsRow_nil _ _ _ _, fun m hm => by cases hm⟩
theorem OwnM.keeps {F : Nat → Prop} {B : Nat} {m : MV} {u u' : World} (h : OwnM B m u) (hk : Keeps F u u') (hF : ∀ j, (m.vc.ownBlock = some j ∨ m.vh.ownBlock = some j) → ¬ F j) : OwnM B m u' :=
  ⟨owns_keeps h.1 hk (fun k hk => hF k (.inl hk)) (Nat.le_refl _), owns_keeps h.2 hk (fun k hk => hF k (.inr hk)) (Nat.le_refl _)⟩
theorem OwnM.lt {B : Nat} {m : MV} {u : World} (h : OwnM B m u) (j : Nat) (hj : m.vc.ownBlock = some j ∨ m.vh.ownBlock = some j) : B ≤ j ∧ j < u.heap.size := by
  rcases hj with hj | hj
  · exact h.1.lt j hj
  · exact h.2.lt j hj
theorem ApartE.keeps {F : Nat → Prop} {B : Nat} {X : List MV} {v : Value} {u u' : World} (h : ApartE B X v u) (hk : Keeps F u u') (hF : ∀ j, F j → j < B) : ApartE B X v u' :=
  fun m hm => ⟨(h m hm).1.keeps hk fun j hj hf => by have := ((h m hm).1.lt j hj).1; have := hF j hf; omega, (h m hm).2⟩
theorem ApartE.push {B : Nat} {X : List MV} {y : MV} {v v' : Value} {u u' : World} (h : ApartE B X v u) (hy : OwnM B y u) (hya : ∀ j, (y.vc.ownBlock = some j ∨ y.vh.ownBlock = some j) → v.ownBlock ≠ some j) (hk : Keeps (fun j => some j = v.ownBlock) u u') (hn : v'.ownBlock = v.ownBlock ∨ ∃ k, v'.ownBlock = some k ∧ u.heap.size ≤ k) : ApartE B (X ++ [y]) v' u' := by
  have hone : ∀ m, OwnM B m u → (∀ j, (m.vc.ownBlock = some j ∨ m.vh.ownBlock = some j) → v.ownBlock ≠ some j) → OwnM B m u' ∧ ∀ j, (m.vc.ownBlock = some j ∨ m.vh.ownBlock = some j) → v'.ownBlock ≠ some j := fun m h1 h2 =>
    ⟨h1.keeps hk fun j hj hf => h2 j hj hf.symm, fun j hj e => by
      rcases hn with hn | ⟨k, hn, hlt⟩
      · exact h2 j hj (hn ▸ e)
      · rw [hn] at e
        cases e
        have := (h1.lt _ hj).2
        omega⟩
  intro m hm
  rcases List.mem_append.1 hm with hm | hm
  · exact hone m (h m hm).1 (h m hm).2
  · obtain rfl := List.mem_singleton.1 hm
    exact hone m hy hya

set_option maxRecDepth 100000 in
set_option maxHeartbeats 2000000 in
theorem listM_any {w0 w : World} {p : Nat} {R : List Int} (h : RD w0 p R w) (hv : Vars w0) :
    Calls Tryz.prog 25 #[.pointer (some ⟨p, 0, none⟩), .func (.func 26) #[.pointer (some ⟨p, 0, none⟩)] #[]] w (Reads w0 p w (rdN rdM R) (MadeL w.heap.size)) := by
  have HN := hid (number_any h)
  have HR := hid h
  have HVA := hid hv
  clear hv
  have hpl := h.lt
  clear h
  go_enter Tryz.func25, Tryz.ntmps25
  go_wp2_with fail
  refine HN.out.mono ?_
  intro e w1 h1
  cases R with
  | nil =>
    obtain ⟨rfl, hk⟩ := reads_no h1 rfl
    exact ⟨rfl, reads_none rfl hk⟩
  | cons z r =>
    obtain ⟨v, rfl, rfl, hr, hk⟩ := reads_yes h1 rfl
    obtain ⟨hz0, hz1⟩ := HR.out.all z (List.mem_cons_self ..)
    obtain ⟨n, rfl⟩ : ∃ n : Nat, z = (n : Int) := ⟨z.toNat, by omega⟩
    have HK1 := hid hk
    have HR1 := hid hr
    have HS : Hid (rdN rdM ((n : Int) :: r) = rdL rdM n r) := hid rfl
    have hnb : n ≤ 255 := by omega
    clear h1 hr hk
    go_wp2_with fail
    go_loopw [5, 8] (fun v i wr => ∃ (k : Nat) (X : List MV) (R' : List Int), k ≤ n ∧ i = .int .i64 k ∧ Hid (ApartL w.heap.size X v wr) ∧ Hid (RD w0 p R' wr) ∧ Hid (Keeps (fun k => k = p) w wr) ∧ Hid (rdL rdM n r = (rdL rdM (n - k) R').map (fun s => (X.map bare ++ s.1, s.2))) ∧ Hid (X.length = k)) (fun _ i _ => n - (intOf i).toNat)
    case atStart => exact ⟨0, [], r, Nat.zero_le _, rfl, hid (apartL_nil _ _), HR1, HK1, hid (by simp), hid rfl⟩
    case round =>
      obtain ⟨k, X, R', hk, rfl, HO, HRD, HKP, HSY, HXL⟩ := hrel
      obtain ⟨W1, hW1⟩ : ∃ W, W = wr := ⟨_, rfl⟩
      subst hW1
      by_cases hlt : k < n
      · have hkl : (k : Int) < (n : Int) := by omega
        have ek : n - k = (n - k - 1) + 1 := by omega
        go_wp2_with fail
        refine (readm_any HRD.out HVA.out).mono ?_
        intro e w2 h2
        cases hp : rdM R' with
        | none =>
          obtain ⟨rfl, hk2⟩ := reads_no h2 hp
          have HF : Hid (rdN rdM ((n : Int) :: r) = none) := hid (by rw [HS.out, HSY.out, ek, rdL, hp]; rfl)
          exact ⟨rfl, reads_none HF.out (HKP.out.trans hk2)⟩
        | some q =>
          obtain ⟨x, R2⟩ := q
          obtain ⟨v, rfl, hv, hr2, hk2⟩ := reads_yes h2 hp
          obtain ⟨y, rfl, hby, hoc, hoh⟩ := hv
          have HSN : Hid (rdL rdM n r = (rdL rdM (n - (k + 1)) R2).map (fun s => ((X ++ [y]).map bare ++ s.1, s.2))) := hid (by
            rw [HSY.out, ek, rdL, hp, show n - k - 1 = n - (k + 1) by omega]
            simp only [Option.bind_some, Option.map_map]
            cases rdL rdM (n - (k + 1)) R2 <;> simp [hby])
          have HXS : Hid (X.length ≤ 255) := hid (by have := HXL.out; omega)
          obtain ⟨wz, hwz, hoz⟩ := out_of (owns_keeps HO.out.own hk2 (fun j hj e => by have := (HO.out.own.lt j hj).1; omega) (Nat.le_refl _)) (Nat.le_trans HKP.out.size hk2.size)
          have HOZ := hid hoz
          have HWZ := hid hwz
          have HR2 := hid hr2
          have HK2 := hid (HKP.out.trans hk2)
          have hxl := HXS.out
          have HYM : Hid (OwnM w.heap.size y w2 ∧ ∀ j, (y.vc.ownBlock = some j ∨ y.vh.ownBlock = some j) → u5.ownBlock ≠ some j) := hid ⟨⟨owns_down hoc HKP.out.size, owns_down hoh HKP.out.size⟩, fun j hj e => by
            have h1 := (HO.out.own.lt j e).2
            rcases hj with hj | hj
            · have := (hoc.lt j hj).1; omega
            · have := (hoh.lt j hj).1; omega⟩
          have HX2 : Hid (ApartE w.heap.size X u5 w2) := hid (HO.out.each.keeps hk2 fun j hj => by subst hj; exact hpl)
          obtain ⟨ay, cy, ey⟩ := (sl_of_owns hoc).val
          obtain ⟨bh, ch, eh⟩ := (sl_of_owns hoh).val
          obtain ⟨ynm, yty, yst, yab, ypr, ylo, yvc, yvh, ycode, yhs⟩ := y
          simp only at ey eh
          subst ey eh
          clear h2 hp hr2 hk2 hoz hwz hoc hoh hby
          simp only [MV.cells]
          go_wp2_with (at_builtin; refine wpList_append_lit_b wz _ _ _ rfl _ _ 24 rfl 59 (.agg #[.string { data := #[] }, .string { data := #[] }, .bool false, .bool false, .bool false, .int .i64 0, .slice none 0 0, .slice none 0 0]) 8 96 1 Tryz.underlying24 infoM rfl (by decide) _ _ _ HOZ.out rfl rfl ?_ rfl ?_ ?_ ?_ ?_)
          all_goals first | (intro v4 w4 ho4 hg4 hn4) | omega | (simp [Value.oneCell']; done) | skip
          have HKG : Hid (Keeps (fun j => some j = (u5).ownBlock) w2 w4) := hid (Keeps.grown hg4)
          have HBK : Hid (∀ j, some j = (u5).ownBlock → w.heap.size ≤ j) := hid (fun j hj => (HO.out.own.lt j hj.symm).1)
          have HO4 : Hid (ApartL w.heap.size (X ++ [(⟨ynm, yty, yst, yab, ypr, ylo, .slice ay ycode.length cy, .slice bh yhs.length ch, ycode, yhs⟩ : MV)]) v4 w4) := hid (by
            refine ⟨?_, ?_⟩
            · have := ho4.own
              rw [HWZ.out] at this
              rw [List.length_append, List.flatMap_append]
              simpa [MV.cells] using this
            · exact HX2.out.push HYM.out.1 HYM.out.2 HKG.out hn4)
          have HR4 : Hid (RD w0 p R2 w4) := hid (HR2.out.keeps HKG.out fun j hj => by have h1 := HBK.out j hj; have := HR.out.base; have := HR.out.below.size; omega)
          have HK4 : Hid (Keeps (fun k => k = p) w w4) := hid (HK2.out.then HKG.out fun j hj h1 => by have := HBK.out j h1; omega)
          clear ho4 hg4
          go_wp2
          go_roundw
          case rel => exact ⟨k + 1, X ++ [(⟨ynm, yty, yst, yab, ypr, ylo, .slice ay ycode.length cy, .slice bh yhs.length ch, ycode, yhs⟩ : MV)], R2, by omega, by go_num, HO4, HR4, HK4, HSN, hid (by simp [HXL.out])⟩
          case measure => simp [intOf]; omega
      · have e : n - k = 0 := by omega
        have HF : Hid (rdN rdM ((n : Int) :: r) = some (X.map bare, R')) := hid (by rw [HS.out, HSY.out, e, rdL]; simp)
        have hge : ¬ (k : Int) < (n : Int) := by omega
        go_wp2
        go_ret
        exact reads_some HF.out ⟨X, rfl, HO.out.own, fun m hm => (HO.out.each m hm).1⟩ HRD.out HKP.out

end Go.Proofs.YtnhhaefoilhlhaaGreatDoor.files

/- Classes read off bytes are small; a class without its values has the same faults and the same bytes; file.Decode's deferred closure. No condition. -/
set_option linter.unusedSimpArgs false
set_option linter.unusedVariables false
namespace Go.Proofs.YtnhhaefoilhlhaaGreatDoor.files
open Go.RowKit Go.Proofs.YtnhhaefoilhlhaaGreatDoor.lib Go.Proofs.YtnhhaefoilhlhaaGreatDoor.errs Go.Proofs.YtnhhaefoilhlhaaGreatDoor.names Go.Proofs.YtnhhaefoilhlhaaGreatDoor.descs Go.Proofs.YtnhhaefoilhlhaaGreatDoor.ins Go.Proofs.YtnhhaefoilhlhaaGreatDoor.flows Go.Proofs.YtnhhaefoilhlhaaGreatDoor.hdls Go.Proofs.YtnhhaefoilhlhaaGreatDoor.classes Go.Proofs.YtnhhaefoilhlhaaGreatDoor.txts Go.Proofs.YtnhhaefoilhlhaaGreatDoor.nums Go.Proofs.YtnhhaefoilhlhaaGreatDoor.keep

theorem mb_bare (m : MV) : mb (bare m) = mb m := rfl
theorem cb_bare (c : CV) : cb (bareC c) = cb c := by
  have h : (c.mets.map bare).flatMap mb = c.mets.flatMap mb := by
    induction c.mets with
    | nil => rfl
    | cons x r ih => rw [List.map_cons, List.flatMap_cons, List.flatMap_cons, ih, mb_bare]
  unfold cb bareC
  simp only [List.length_map, h]
theorem twin_bare (nm ty : ByteArray) : ∀ l : List MV, twin nm ty (l.map bare) = twin nm ty l
  | [] => rfl
  | x :: r => by rw [List.map_cons, twin, twin, twin_bare nm ty r]; rfl
theorem metFault_bare (m : MV) (a : List MV) : metFault (bare m) (a.map bare) = metFault m a := by
  unfold metFault
  rw [twin_bare]
  rfl
theorem fb_bare : ∀ (l a : List MV), firstBad metFault (a.map bare) (l.map bare) = firstBad metFault a l
  | [], _ => rfl
  | x :: r, a => by
    have h := fb_bare r (a ++ [x])
    rw [List.map_append] at h
    rw [List.map_cons, firstBad, firstBad, metFault_bare]
    rw [show [x].map bare = [bare x] from rfl] at h
    rw [h]
theorem fault_bare (c : CV) : clsFault (bareC c) = clsFault c := by
  have h := fb_bare c.mets []
  rw [List.map_nil] at h
  unfold clsFault
  rw [show (bareC c).mets = c.mets.map bare from rfl, h, List.length_map]
  rfl

/-- bytes, not many -/
def Bytes (b : List Int) : Prop := (∀ z ∈ b, 0 ≤ z ∧ z ≤ 255) ∧ b.length ≤ 10000000
theorem Bytes.tail {b q : List Int} (h : Bytes b) (hq : q <:+ b) : Bytes q := ⟨fun z hz => h.1 z (hq.subset hz), Nat.le_trans hq.length_le h.2⟩
theorem rdB_ok {R q : List Int} {z : Int} (h : rdB R = some (z, q)) (hb : Bytes R) : (0 ≤ z ∧ z ≤ 255) ∧ q <:+ R := by
  cases R with
  | nil => cases h
  | cons n r =>
    cases h
    exact ⟨hb.1 _ (List.mem_cons_self ..), List.suffix_cons _ _⟩
theorem rdT_ok {R q : List Int} {s : ByteArray} (h : rdT R = some (s, q)) (hb : Bytes R) : s.size ≤ 255 ∧ q <:+ R := by
  cases R with
  | nil => cases h
  | cons n r =>
    obtain ⟨h0, h1⟩ := hb.1 n (List.mem_cons_self ..)
    rw [rdT] at h
    split at h
    · cases h
    · cases h
      refine ⟨?_, (List.drop_suffix _ _).trans (List.suffix_cons _ _)⟩
      rw [← size_len, strOfNums_data, List.length_map, List.length_take]
      omega
theorem rdL_ok {T : Type} {f : List Int → Option (T × List Int)} {p : T → Prop} (hf : ∀ R x q, f R = some (x, q) → Bytes R → p x ∧ q <:+ R) : ∀ (n : Nat) (R : List Int) (l : List T) (q : List Int), rdL f n R = some (l, q) → Bytes R → l.length = n ∧ (∀ x ∈ l, p x) ∧ q <:+ R
  | 0, R, l, q, h, hb => by cases h; exact ⟨rfl, (fun x hx => by cases hx), List.suffix_refl _⟩
  | n + 1, R, l, q, h, hb => by
    simp only [rdL, Option.bind_eq_some_iff, Option.map_eq_some_iff] at h
    obtain ⟨⟨x, q1⟩, h1, ⟨l2, q2⟩, h2, h3⟩ := h
    cases h3
    obtain ⟨hx, hq⟩ := hf _ _ _ h1 hb
    obtain ⟨k1, k2, k3⟩ := rdL_ok hf n q1 l2 _ h2 (hb.tail hq)
    refine ⟨by rw [List.length_cons, k1], fun y hy => ?_, k3.trans hq⟩
    rcases List.mem_cons.1 hy with rfl | hy
    · exact hx
    · exact k2 y hy
theorem rdN_ok {T : Type} {f : List Int → Option (T × List Int)} {p : T → Prop} (hf : ∀ R x q, f R = some (x, q) → Bytes R → p x ∧ q <:+ R) {R : List Int} {l : List T} {q : List Int} (h : rdN f R = some (l, q)) (hb : Bytes R) : l.length ≤ 255 ∧ (∀ x ∈ l, p x) ∧ q <:+ R := by
  simp only [rdN, Option.bind_eq_some_iff] at h
  obtain ⟨⟨z, q1⟩, h1, h2⟩ := h
  obtain ⟨⟨hz0, hz1⟩, hq⟩ := rdB_ok h1 hb
  obtain ⟨k1, k2, k3⟩ := rdL_ok hf _ _ _ _ h2 (hb.tail hq)
  exact ⟨by simp only at k1; omega, k2, k3.trans hq⟩
theorem rdH_ok (R : List Int) (x : Hd) (q : List Int) (h : rdH R = some (x, q)) (hb : Bytes R) : x.cls.size ≤ 255 ∧ q <:+ R := by
  simp only [rdH, Option.bind_eq_some_iff, Option.map_eq_some_iff] at h
  obtain ⟨⟨z1, q1⟩, h1, ⟨z2, q2⟩, h2, ⟨z3, q3⟩, h3, ⟨s, q4⟩, h4, h5⟩ := h
  cases h5
  have k1 := (rdB_ok h1 hb).2
  have k2 := (rdB_ok h2 (hb.tail k1)).2.trans k1
  have k3 := (rdB_ok h3 (hb.tail k2)).2.trans k2
  have k4 := rdT_ok h4 (hb.tail k3)
  exact ⟨k4.1, k4.2.trans k3⟩
theorem rdF_ok (R : List Int) (x : classes.Fd) (q : List Int) (h : rdF R = some (x, q)) (hb : Bytes R) : (x.nm.size ≤ 255 ∧ x.ty.size ≤ 255) ∧ q <:+ R := by
  simp only [rdF, Option.bind_eq_some_iff, Option.map_eq_some_iff] at h
  obtain ⟨⟨z1, q1⟩, h1, ⟨z2, q2⟩, h2, h5⟩ := h
  cases h5
  have k1 := rdT_ok h1 hb
  have k2 := rdT_ok h2 (hb.tail k1.2)
  exact ⟨⟨k1.1, k2.1⟩, k2.2.trans k1.2⟩
def OkM (m : MV) : Prop := SmallM m ∧ (∀ x ∈ m.code, Fine x) ∧ bare m = m
theorem rdM_ok (R : List Int) (x : MV) (q : List Int) (h : rdM R = some (x, q)) (hb : Bytes R) : OkM x ∧ q <:+ R := by
  simp only [rdM, Option.bind_eq_some_iff, Option.map_eq_some_iff] at h
  obtain ⟨⟨s1, q1⟩, h1, ⟨s2, q2⟩, h2, ⟨f, q3⟩, h3, ⟨lo, q4⟩, h4, ⟨l, q5⟩, h5, ⟨hs, q6⟩, h6, h7⟩ := h
  cases h7
  have k1 := rdT_ok h1 hb
  have k2 := rdT_ok h2 (hb.tail k1.2)
  have t2 := k2.2.trans k1.2
  have t3 := (rdB_ok h3 (hb.tail t2)).2.trans t2
  have t4 := (rdB_ok h4 (hb.tail t3)).2.trans t3
  obtain ⟨c1, c2, c3⟩ := cut_right h5 (hb.tail t4).1 (hb.tail t4).2
  have t5 : q5 <:+ R := (show q5 <:+ q4 from ⟨_, c2.symm⟩).trans t4
  have k6 := rdN_ok rdH_ok h6 (hb.tail t5)
  have h40 := (code_good c1).1
  refine ⟨⟨⟨Nat.le_trans k1.1 (by decide), Nat.le_trans k2.1 (by decide), by show l.length ≤ _; omega, fun y hy => (c3 y hy).1, Nat.le_trans k6.1 (by decide), fun y hy => Nat.le_trans (k6.2.1 y hy) (by decide)⟩, c3, rfl⟩, k6.2.2.trans t5⟩
theorem rdC_ok {b q : List Int} {c : CV} (h : rdC b = some (c, q)) (hb : Bytes b) : SmallC c ∧ (∀ m ∈ c.mets, ∀ x ∈ m.code, Fine x) ∧ bareC c = c := by
  unfold rdC at h
  split at h
  · cases h
  simp only [Option.bind_eq_some_iff, Option.map_eq_some_iff] at h
  obtain ⟨⟨s1, q1⟩, h1, ⟨s2, q2⟩, h2, ⟨fs, q3⟩, h3, ⟨f, q4⟩, h4, ⟨ds, q5⟩, h5, ⟨ms, q6⟩, h6, h7⟩ := h
  cases h7
  have t0 : b.drop 5 <:+ b := List.drop_suffix _ _
  have k1 := rdT_ok h1 (hb.tail t0)
  have t1 := k1.2.trans t0
  have k2 := rdT_ok h2 (hb.tail t1)
  have t2 := k2.2.trans t1
  have k3 := rdN_ok (p := fun s : ByteArray => s.size ≤ 255) (fun R x q h hb => rdT_ok h hb) h3 (hb.tail t2)
  have t3 := k3.2.2.trans t2
  have t4 := (rdB_ok h4 (hb.tail t3)).2.trans t3
  have k5 := rdN_ok rdF_ok h5 (hb.tail t4)
  have t5 := k5.2.2.trans t4
  have k6 := rdN_ok rdM_ok h6 (hb.tail t5)
  refine ⟨⟨Nat.le_trans k1.1 (by decide), Nat.le_trans k2.1 (by decide), Nat.le_trans k3.1 (by decide), fun x hx => Nat.le_trans (k3.2.1 x hx) (by decide), Nat.le_trans k5.1 (by decide), fun x hx => ⟨Nat.le_trans (k5.2.1 x hx).1 (by decide), Nat.le_trans (k5.2.1 x hx).2 (by decide)⟩, Nat.le_trans k6.1 (by decide), fun x hx => (k6.2.1 x hx).1⟩, fun m hm => (k6.2.1 m hm).2.1, ?_⟩
  unfold bareC
  simp only [CV.mk.injEq, true_and, and_true]
  exact (List.map_congr_left fun m hm => (k6.2.1 m hm).2.2).trans (map_id' ms)
/-- the class of bytes -/
def okC (b : List Int) : Option CV := match rdC b with
  | none => none
  | some p => if clsFault p.1 = 0 ∧ cb p.1 = b then some p.1 else none
theorem okC_some {b : List Int} {c : CV} (h : okC b = some c) (hb : Bytes b) : clsFault c = 0 ∧ cb c = b ∧ SmallC c ∧ (∀ m ∈ c.mets, ∀ x ∈ m.code, Fine x) ∧ bareC c = c := by
  unfold okC at h
  cases hr : rdC b with
  | none => rw [hr] at h; cases h
  | some p =>
    obtain ⟨c', q⟩ := p
    rw [hr] at h
    simp only at h
    split at h
    · rename_i h2
      cases h
      obtain ⟨k1, k2, k3⟩ := rdC_ok hr hb
      exact ⟨h2.1, h2.2, k1, k2, k3⟩
    · cases h
theorem okC_cb {c : CV} (h : clsFault c = 0) (hn : ∀ m ∈ c.mets, ∀ x ∈ m.code, Small x ∧ InR x.a ∧ InR x.b) (hs : SmallC c) : okC (cb c) = some (bareC c) := by
  unfold okC
  rw [rdC_cb (sized_cls h hn hs)]
  simp only
  rw [if_pos ⟨by rw [fault_bare]; exact h, cb_bare c⟩]

/-- a class that the call has made -/
structure MadeC (B : Nat) (c : CV) (u : World) : Prop where
  faces : u.ownsRow B 9 1 c.vf c.faces.length (c.faces.flatMap (fun x => [Value.string x]))
  fields : u.ownsRow B 55 2 c.vd c.fields.length (c.fields.flatMap classes.Fd.cells)
  sl : u.ownsRow B 59 8 c.vm c.mets.length (c.mets.flatMap MV.cells)
  mets : ∀ m ∈ c.mets, OwnM B m u
theorem MadeC.at_ {B : Nat} {c : CV} {u : World} (h : MadeC B c u) : c.At u := by
  refine ⟨?_, sl_of_owns h.fields, sl_of_owns h.sl, fun m hm => ⟨sl_of_owns (h.mets m hm).1, sl_of_owns (h.mets m hm).2⟩⟩
  have := sl_of_owns h.faces
  rwa [show c.faces.flatMap (fun x => [Value.string x]) = c.faces.map .string from by induction c.faces with | nil => rfl | cons x r ih => rw [List.flatMap_cons, List.map_cons, ih]; rfl] at this
theorem MadeC.keeps {F : Nat → Prop} {B : Nat} {c : CV} {u u' : World} (h : MadeC B c u) (hk : Keeps F u u') (hF : ∀ k, F k → k < B ∨ u.heap.size ≤ k) : MadeC B c u' := by
  refine ⟨owns_keeps h.faces hk (fun k hk hf => ?_) (Nat.le_refl _), owns_keeps h.fields hk (fun k hk hf => ?_) (Nat.le_refl _), owns_keeps h.sl hk (fun k hk hf => ?_) (Nat.le_refl _), fun m hm => (h.mets m hm).keeps hk fun k hk hf => ?_⟩
  · have h1 := h.faces.lt k hk; have h2 := hF k hf; omega
  · have h1 := h.fields.lt k hk; have h2 := hF k hf; omega
  · have h1 := h.sl.lt k hk; have h2 := hF k hf; omega
  · have h1 := (h.mets m hm).lt k hk; have h2 := hF k hf; omega

set_option maxRecDepth 100000 in
set_option maxHeartbeats 4000000 in
theorem fcatch_err (pn pe : Nat) (row : Array Value) (y : Value) (w : World) (hn : w.heap[pn]? = some (.cells row 26)) (he : w.heap[pe]? = some (.cells #[y] 30)) (hne : pn ≠ pe) (hrow : row.size = 6) :
    CallsD Tryz.prog 18 #[.pointer (some ⟨pn, 0, none⟩), .pointer (some ⟨pe, 0, none⟩)] (.panicking errF) w fun e u' w' =>
      e = .returned (.tuple #[]) ∧ u' = .panicking [{ v := .iface 36 (.int .i64 1), recovered := true }] ∧ w'.heap[pn]? = some (.cells #[.string { data := #[] }, .string { data := #[] }, .slice none 0 0, .bool false, .slice none 0 0, .slice none 0 0] 26) ∧ w'.heap[pe]? = some (.cells #[.iface 36 (.int .i64 1)] 30) ∧ Keeps (fun k => k = pn ∨ k = pe) w w' := by
  have hta : ∀ w, (Instr.typeAssert (.iface 36 (.int .i64 1)) 20 36 true).run Tryz.prog w = .ok (.tuple #[.int .i64 1, .bool true]) w := fun w => by kernel_rfl
  refine callsD_of_wpS Tryz.func18 rfl fun c₀ cs hu => ?_
  unfold errF at hu
  obtain ⟨W1, hW1⟩ : ∃ W1, w.setRow pn #[.string { data := #[] }, .string { data := #[] }, .slice none 0 0, .bool false, .slice none 0 0, .slice none 0 0] = W1 := ⟨_, rfl⟩
  have D1 : W1.heap[pn]? = some (.cells #[.string { data := #[] }, .string { data := #[] }, .slice none 0 0, .bool false, .slice none 0 0, .slice none 0 0] 26) := by subst hW1; exact setRow_heap w pn _ _ _ _ hn
  have K1 : Keeps (fun k => k = pn) w W1 := by subst hW1; exact keeps_rowF w pn _
  have E1 : W1.heap[pe]? = some (.cells #[y] 30) := (K1.block pe (Array.getElem?_eq_some_iff.1 he).1 (fun h => hne h.symm)).trans he
  have q1 : W1.cell? ⟨pe, 0, none⟩ = some y := by rw [cell_of_row _ _ _ _ _ _ E1]; rfl
  have q2 : W1.frozen? ⟨pe, 0, none⟩ = false := frozen_of_row _ _ _ _ _ E1
  obtain ⟨W2, hW2⟩ : ∃ W2, W1.setCell ⟨pe, 0, none⟩ (.iface 36 (.int .i64 1)) = W2 := ⟨_, rfl⟩
  have K2 : Keeps (fun k => k = pe) W1 W2 := by subst hW2; exact Keeps.set W1 pe 0 _
  have E2 : W2.heap[pe]? = some (.cells #[.iface 36 (.int .i64 1)] 30) := by subst hW2; exact heap_set E1 0 _
  have D2 : W2.heap[pn]? = some (.cells #[.string { data := #[] }, .string { data := #[] }, .slice none 0 0, .bool false, .slice none 0 0, .slice none 0 0] 26) := (K2.block pn (Array.getElem?_eq_some_iff.1 D1).1 hne).trans D1
  have HD2 := hid D2; have HE2 := hid E2
  have HK2 : Hid (Keeps (fun k => k = pn ∨ k = pe) w W2) := hid ((K1.mono fun _ _ h => .inl h).trans (K2.mono fun _ _ h => .inr h))
  have HN := hid hn
  clear D1 D2 E1 E2 K1 K2 hn he
  apply wpS_seq
  apply wpS_region
  simp [wpOpsS, go_sem, recoverD, hu, Tryz.ntmps18, Exit.thenS]
  refine wpS_of_wp ?_
  show Code.wp _ _ _ { tmps := #[.pointer (some ⟨pn, 0, none⟩), .pointer (some ⟨pe, 0, none⟩), .iface 36 (.int .i64 1), undef, undef, .iface 36 (.int .i64 1), undef, undef, undef, undef, undef, undef, undef, undef, undef, undef, undef, undef, undef], defers := [] } w
  go_wp2_with (refine wpList_store_row rfl 26 (.tmp 0) (.tmp 16) rfl pn #[.string { data := #[] }, .string { data := #[] }, .slice none 0 0, .bool false, .slice none 0 0, .slice none 0 0] rfl rfl 26 _ HN.out (by kernel_rfl) hrow (by simp [Value.oneCell']) ?_)
  exact ⟨rfl, _, rfl, _, by simp [results, Tryz.results18, go_sem], rfl, rfl, HD2.out, HE2.out, HK2.out⟩

set_option maxRecDepth 100000 in
set_option maxHeartbeats 4000000 in
theorem fcatch_idle (pn pe : Nat) (w : World) :
    CallsD Tryz.prog 18 #[.pointer (some ⟨pn, 0, none⟩), .pointer (some ⟨pe, 0, none⟩)] .returning w fun e u' w' =>
      e = .returned (.tuple #[]) ∧ u' = .returning ∧ w' = w := by
  refine callsD_of_wpS Tryz.func18 rfl fun c₀ cs hu => ?_
  apply wpS_seq
  apply wpS_region
  simp [wpOpsS, go_sem, recoverD, hu, Tryz.ntmps18, Exit.thenS]
  refine wpS_of_wp ?_
  show Code.wp _ _ _ { tmps := #[.pointer (some ⟨pn, 0, none⟩), .pointer (some ⟨pe, 0, none⟩), .nilIface, undef, undef, .nilIface, undef, undef, undef, undef, undef, undef, undef, undef, undef, undef, undef, undef, undef], defers := [] } w
  go_wp2
  exact ⟨rfl, .returning, by cases c₀; cases hu; rfl, _, by simp [results, Tryz.results18, go_sem], rfl, rfl, rfl⟩
end Go.Proofs.YtnhhaefoilhlhaaGreatDoor.files
