/- Bytes read as a class, plainly; a right class's bytes read as that class. No condition of the world. -/
import Derived.Test.YtnhhaefoilhlhaaGreatDoorFile4P
import Derived.Test.YtnhhaefoilhlhaaGreatDoorCut1
import Derived.Test.YtnhhaefoilhlhaaGreatDoorOwn
import Derived.Test.YtnhhaefoilhlhaaGreatDoorGrowP
import Derived.Laws.Tables
set_option linter.unusedSimpArgs false
set_option linter.unusedVariables false
namespace Go.Proofs.YtnhhaefoilhlhaaGreatDoor.files
open Go.RowKit Go.Proofs.YtnhhaefoilhlhaaGreatDoor.lib Go.Proofs.YtnhhaefoilhlhaaGreatDoor.errs Go.Proofs.YtnhhaefoilhlhaaGreatDoor.names Go.Proofs.YtnhhaefoilhlhaaGreatDoor.descs Go.Proofs.YtnhhaefoilhlhaaGreatDoor.ins Go.Proofs.YtnhhaefoilhlhaaGreatDoor.flows Go.Proofs.YtnhhaefoilhlhaaGreatDoor.hdls Go.Proofs.YtnhhaefoilhlhaaGreatDoor.classes Go.Proofs.YtnhhaefoilhlhaaGreatDoor.txts Go.Proofs.YtnhhaefoilhlhaaGreatDoor.nums

/-- a text off bytes; what is behind it -/
def rdT : List Int → Option (ByteArray × List Int)
  | [] => none
  | n :: r => if (r.length : Int) < n then none else some (strOfNums (r.take n.toNat), r.drop n.toNat)
def rdB : List Int → Option (Int × List Int)
  | [] => none
  | n :: r => some (n, r)
def rdL {T : Type} (f : List Int → Option (T × List Int)) : Nat → List Int → Option (List T × List Int)
  | 0, r => some ([], r)
  | n + 1, r => (f r).bind fun p => (rdL f n p.2).map fun s => (p.1 :: s.1, s.2)
/-- a list of things, its length ahead -/
def rdN {T : Type} (f : List Int → Option (T × List Int)) (b : List Int) : Option (List T × List Int) := (rdB b).bind fun p => rdL f p.1.toNat p.2
def rdH (b : List Int) : Option (Hd × List Int) := (rdB b).bind fun p => (rdB p.2).bind fun s => (rdB s.2).bind fun t => (rdT t.2).map fun c => (⟨p.1, s.1, t.1, c.1⟩, c.2)
def rdF (b : List Int) : Option (classes.Fd × List Int) := (rdT b).bind fun p => (rdT p.2).map fun s => (⟨p.1, s.1⟩, s.2)
def rdM (b : List Int) : Option (MV × List Int) := (rdT b).bind fun p => (rdT p.2).bind fun t => (rdB t.2).bind fun f => (rdB f.2).bind fun l => (cutB l.2).bind fun c => (rdN rdH c.2).map fun h =>
  (⟨p.1, t.1, decide (f.1 % 2 = 1), decide (f.1 / 2 % 2 = 1), decide (f.1 / 4 % 2 = 1), l.1, .nilIface, .nilIface, c.1, h.1⟩, h.2)
/-- the five bytes ahead are not looked at here -/
def rdC (b : List Int) : Option (CV × List Int) := if b.length < 5 then none else (rdT (b.drop 5)).bind fun n => (rdT n.2).bind fun s => (rdN rdT s.2).bind fun f => (rdB f.2).bind fun i => (rdN rdF i.2).bind fun d => (rdN rdM d.2).map fun m =>
  (⟨n.1, s.1, .nilIface, decide (i.1 = 1), .nilIface, .nilIface, f.1, d.1, m.1⟩, m.2)

theorem nums_str (s : ByteArray) : strOfNums (s.data.toList.map fun b => (b.toNat : Int)) = s := by
  have h := nums_back s.data.toList
  have : (strOfNums (s.data.toList.map fun b => (b.toNat : Int))).data = s.data := Array.ext' h
  exact ByteArray.ext this
theorem rdT_tb {s : ByteArray} (h : s.size ≤ 255) (q : List Int) : rdT (tb s ++ q) = some (s, q) := by
  unfold tb
  rw [List.cons_append, show (s.size : Int) % 256 = (s.size : Int) by omega]
  have hl : (s.data.toList.map fun b => (b.toNat : Int)).length = s.size := by rw [List.length_map]; exact size_len s
  rw [rdT, if_neg (by rw [List.length_append, hl]; omega), Int.toNat_natCast, List.take_left' hl, List.drop_left' hl, nums_str]
theorem rdL_flat {T : Type} {f : List Int → Option (T × List Int)} {e : T → List Int} {g : T → T} : ∀ (l : List T) (q : List Int), (∀ x ∈ l, ∀ q, f (e x ++ q) = some (g x, q)) → rdL f l.length (l.flatMap e ++ q) = some (l.map g, q)
  | [], q, _ => rfl
  | x :: l, q, h => by
    rw [List.flatMap_cons, List.append_assoc, List.length_cons, rdL, h x (List.mem_cons_self ..)]
    show (rdL f l.length (l.flatMap e ++ q)).map _ = _
    rw [rdL_flat l q fun y hy => h y (List.mem_cons_of_mem _ hy)]
    rfl
theorem rdN_flat {T : Type} {f : List Int → Option (T × List Int)} {e : T → List Int} {g : T → T} {l : List T} (hl : l.length ≤ 255) (q : List Int) (h : ∀ x ∈ l, ∀ q, f (e x ++ q) = some (g x, q)) : rdN f ([(l.length : Int) % 256] ++ (l.flatMap e ++ q)) = some (l.map g, q) := by
  unfold rdN
  rw [show (l.length : Int) % 256 = (l.length : Int) by omega]
  show rdL f ((l.length : Int)).toNat (l.flatMap e ++ q) = _
  rw [Int.toNat_natCast, rdL_flat l q h]
/-- what is needed to be read again -/
structure SizedH (h : Hd) : Prop where
  fr : 0 ≤ h.fr ∧ h.fr ≤ 255
  to_ : 0 ≤ h.til ∧ h.til ≤ 255
  at_ : 0 ≤ h.at_ ∧ h.at_ ≤ 255
  cls : h.cls.size ≤ 255
structure SizedM (m : MV) : Prop where
  nm : m.nm.size ≤ 255
  ty : m.ty.size ≤ 255
  lo : 0 ≤ m.lo ∧ m.lo ≤ 255
  code : codeErr m.code = 0
  nums : ∀ x ∈ m.code, InR x.a ∧ InR x.b
  hlen : m.hs.length ≤ 255
  hs : ∀ h ∈ m.hs, SizedH h
structure SizedC (c : CV) : Prop where
  nm : c.nm.size ≤ 255
  sup : c.sup.size ≤ 255
  fn : c.faces.length ≤ 255
  faces : ∀ x ∈ c.faces, x.size ≤ 255
  dn : c.fields.length ≤ 255
  fields : ∀ x ∈ c.fields, x.nm.size ≤ 255 ∧ x.ty.size ≤ 255
  mn : c.mets.length ≤ 255
  mets : ∀ m ∈ c.mets, SizedM m
theorem rdH_hb {h : Hd} (hs : SizedH h) (q : List Int) : rdH (hb h ++ q) = some (h, q) := by
  obtain ⟨fr, tt, at_, cls⟩ := h
  have h1 := hs.fr; have h2 := hs.to_; have h3 := hs.at_; have h4 := hs.cls
  simp only at h1 h2 h3 h4
  unfold hb rdH
  simp only [show fr % 256 = fr by omega, show tt % 256 = tt by omega, show at_ % 256 = at_ by omega, List.cons_append, List.nil_append, List.append_assoc, rdB, Option.bind_some, rdT_tb h4, Option.map_some]
theorem rdF_fb {x : classes.Fd} (h : x.nm.size ≤ 255 ∧ x.ty.size ≤ 255) (q : List Int) : rdF (fb x ++ q) = some (x, q) := by
  unfold fb rdF
  simp only [List.append_assoc, rdT_tb h.1, rdT_tb h.2, Option.bind_some, Option.map_some]
/-- a method without its values -/
def bare (m : MV) : MV := ⟨m.nm, m.ty, m.st, m.ab, m.pr, m.lo, .nilIface, .nilIface, m.code, m.hs⟩
def bareC (c : CV) : CV := ⟨c.nm, c.sup, .nilIface, c.face, .nilIface, .nilIface, c.faces, c.fields, c.mets.map bare⟩
theorem bit3 (a b c : Bool) : decide (bit [a, b, c] % 2 = 1) = a ∧ decide (bit [a, b, c] / 2 % 2 = 1) = b ∧ decide (bit [a, b, c] / 4 % 2 = 1) = c := by
  cases a <;> cases b <;> cases c <;> decide
theorem map_id' {T : Type} (l : List T) : l.map (fun x => x) = l := List.map_id' l
theorem rdM_mb {m : MV} (h : SizedM m) (q : List Int) : rdM (mb m ++ q) = some (bare m, q) := by
  obtain ⟨nm, ty, st, ab, pr, lo, vc, vh, code, hs⟩ := m
  have h1 := h.nm; have h2 := h.ty; have h3 := h.lo; have h4 := h.code; have h5 := h.nums; have h6 := h.hlen; have h7 := h.hs
  simp only at h1 h2 h3 h4 h5 h6 h7
  obtain ⟨b1, b2, b3⟩ := bit3 st ab pr
  have hN := rdN_flat (f := rdH) (e := hb) (g := fun x => x) h6 q fun x hx q => rdH_hb (h7 x hx) q
  have hC := cut_enc h4 h5 ([(hs.length : Int) % 256] ++ (hs.flatMap hb ++ q))
  unfold mb rdM bare
  simp only [List.append_assoc]
  rw [rdT_tb h1]
  simp only [Option.bind_some]
  rw [rdT_tb h2]
  simp only [Option.bind_some, List.cons_append, List.nil_append, rdB]
  simp only [List.cons_append, List.nil_append] at hC hN
  rw [hC]
  simp only [Option.bind_some]
  rw [hN]
  simp only [Option.map_some, b1, b2, b3, show lo % 256 = lo by omega, map_id']
theorem rdC_cb {c : CV} (h : SizedC c) : rdC (cb c) = some (bareC c, []) := by
  obtain ⟨nm, sup, vf, face, vd, vm, faces, fields, mets⟩ := c
  have h1 := h.nm; have h2 := h.sup; have h3 := h.fn; have h4 := h.faces; have h5 := h.dn; have h6 := h.fields; have h7 := h.mn; have h8 := h.mets
  simp only at h1 h2 h3 h4 h5 h6 h7 h8
  have hM := rdN_flat (f := rdM) (e := mb) (g := bare) h7 [] fun x hx q => rdM_mb (h8 x hx) q
  have hD := rdN_flat (f := rdF) (e := fb) (g := fun x => x) h5 ([(mets.length : Int) % 256] ++ (mets.flatMap mb ++ [])) fun x hx q => rdF_fb (h6 x hx) q
  have hF := rdN_flat (f := rdT) (e := tb) (g := fun x => x) h3 ([bit [face]] ++ ([(fields.length : Int) % 256] ++ (fields.flatMap fb ++ ([(mets.length : Int) % 256] ++ (mets.flatMap mb ++ []))))) fun x hx q => rdT_tb (h4 x hx) q
  have hb1 : decide (bit [face] = 1) = face := by cases face <;> decide
  unfold cb rdC bareC
  simp only [List.append_assoc]
  rw [if_neg (by simp only [magic, List.length_append, List.length_cons]; omega), List.drop_left' (by rfl), rdT_tb h1]
  simp only [Option.bind_some]
  rw [rdT_tb h2]
  simp only [Option.bind_some]
  simp only [List.append_nil] at hM hD hF
  rw [hF]
  simp only [Option.bind_some, List.cons_append, List.nil_append, rdB]
  simp only [List.cons_append, List.nil_append] at hD hM
  rw [hD]
  simp only [Option.bind_some]
  rw [hM]
  simp only [Option.map_some, hb1, map_id']
end Go.Proofs.YtnhhaefoilhlhaaGreatDoor.files

/- A right class is short enough to be read again. No condition. -/
namespace Go.Proofs.YtnhhaefoilhlhaaGreatDoor.files
open Go.RowKit Go.Proofs.YtnhhaefoilhlhaaGreatDoor.lib Go.Proofs.YtnhhaefoilhlhaaGreatDoor.errs Go.Proofs.YtnhhaefoilhlhaaGreatDoor.names Go.Proofs.YtnhhaefoilhlhaaGreatDoor.descs Go.Proofs.YtnhhaefoilhlhaaGreatDoor.ins Go.Proofs.YtnhhaefoilhlhaaGreatDoor.flows Go.Proofs.YtnhhaefoilhlhaaGreatDoor.hdls Go.Proofs.YtnhhaefoilhlhaaGreatDoor.classes Go.Proofs.YtnhhaefoilhlhaaGreatDoor.txts Go.Proofs.YtnhhaefoilhlhaaGreatDoor.nums

theorem name_short {s : ByteArray} (h : nameOk s.data.toList = true) : s.size ≤ 255 := by
  unfold nameOk at h
  simp only [Bool.and_eq_true, decide_eq_true_eq] at h
  have h5 := h.1.1.2
  rw [size_len] at h5
  omega
theorem hd_each {n : Nat} : ∀ {l : List Hd}, hdBad n l = 0 → ∀ h ∈ l, hdIn n h = true ∧ nameOk h.cls.data.toList = true
  | [], _, h, hm => by cases hm
  | x :: l, hb, h, hm => by
    unfold hdBad at hb
    cases h1 : hdIn n x with
    | false => rw [h1, if_pos rfl] at hb; cases hb
    | true =>
      rw [h1, if_neg (by decide)] at hb
      cases h2 : nameOk x.cls.data.toList with
      | false => rw [h2, if_pos rfl] at hb; cases hb
      | true =>
        rw [h2, if_neg (by decide)] at hb
        rcases List.mem_cons.1 hm with rfl | hm
        · exact ⟨h1, h2⟩
        · exact hd_each hb h hm
theorem sized_met {m : MV} {a : List MV} (h : metFault m a = 0) (hn : ∀ x ∈ m.code, Small x ∧ InR x.a ∧ InR x.b) (hs : SmallM m) : SizedM m := by
  have hg := good_met h hn hs
  unfold metFault at h
  split at h
  · cases h
  rename_i h1
  split at h
  · cases h
  rename_i h2
  split at h
  · cases h
  split at h
  · cases h
  rename_i h4
  have h40 := (code_good hg.code).1
  refine ⟨name_short (by simpa using h1), ?_, by omega, hg.code, fun x hx => (hn x hx).2, by have := hg.hlen; omega, ?_⟩
  · have hi : (methodOf m.ty.data.toList).isSome = true := by
      cases hm : methodOf m.ty.data.toList with
      | none => exact absurd hm h2
      | some _ => rfl
    have := method_short hi
    rw [size_len] at this
    omega
  · unfold bodyFault at h
    split at h
    · unfold absFault at h
      split at h
      · cases h
      · rename_i hno
        intro x hx
        have : m.hs = [] := List.eq_nil_of_length_eq_zero (by omega)
        rw [this] at hx
        cases hx
    · split at h
      · rename_i hc; exact absurd h hc
      · split at h
        · cases h
        · split at h
          · cases h
          · have hb : hdBad m.code.length m.hs = 0 := by
              unfold hdFault at h
              split at h
              · rename_i hb; exact absurd h hb
              · rename_i hb; exact Classical.not_not.1 hb
            intro x hx
            obtain ⟨hin, hnm⟩ := hd_each hb x hx
            unfold hdIn at hin
            simp only [decide_eq_true_eq] at hin
            exact ⟨by omega, by omega, by omega, name_short hnm⟩
theorem sized_cls {c : CV} (h : clsFault c = 0) (hn : ∀ m ∈ c.mets, ∀ x ∈ m.code, Small x ∧ InR x.a ∧ InR x.b) (hs : SmallC c) : SizedC c := by
  have hg := good_cls h hn hs
  unfold clsFault at h
  by_cases a1 : headBad c = true
  · rw [if_pos a1] at h; cases h
  rw [if_neg a1] at h
  by_cases a2' : firstBad faceFault [] c.faces ≠ 0
  · rw [if_pos a2'] at h; exact absurd h a2'
  rw [if_neg a2'] at h
  by_cases a3 : 8 < c.faces.length ∨ 8 < c.fields.length ∨ 8 < c.mets.length
  · rw [if_pos a3] at h; cases h
  rw [if_neg a3] at h
  by_cases a4' : firstBad fieldFault [] c.fields ≠ 0
  · rw [if_pos a4'] at h; exact absurd h a4'
  rw [if_neg a4'] at h
  by_cases a5' : firstBad metFault [] c.mets ≠ 0
  · rw [if_pos a5'] at h; exact absurd h a5'
  have hhead : nameOk c.nm.data.toList = true ∧ (c.sup.data.toList = [] ∨ nameOk c.sup.data.toList = true) := by
    unfold headBad at a1
    cases hnm : nameOk c.nm.data.toList with
    | false => rw [hnm, if_pos rfl] at a1; exact absurd rfl a1
    | true =>
      rw [hnm, if_neg (by decide)] at a1
      refine ⟨rfl, ?_⟩
      by_cases hs : c.sup.data.toList = []
      · exact .inl hs
      · rw [if_neg hs] at a1
        exact .inr (by simpa using a1)
  refine ⟨name_short hhead.1, ?_, by omega, fun x hx => ?_, by omega, fun x hx => ?_, by omega, fun m hm => ?_⟩
  · rcases hhead.2 with h0 | h0
    · have : c.sup.size = 0 := by rw [← size_len, h0]; rfl
      omega
    · exact name_short h0
  · obtain ⟨a, ha⟩ := fb_all (Classical.not_not.1 a2') x hx
    unfold faceFault at ha
    split at ha
    · cases ha
    · rename_i hnm; exact name_short (by simpa using hnm)
  · obtain ⟨a, ha⟩ := fb_all (Classical.not_not.1 a4') x hx
    unfold fieldFault at ha
    split at ha
    · cases ha
    · rename_i hnm
      split at ha
      · cases ha
      · rename_i hty
        have h25 := isTy_short (l := x.ty.data.toList) (by simpa using hty)
        rw [size_len] at h25
        exact ⟨name_short (by simpa using hnm), by omega⟩
  · obtain ⟨a, ha⟩ := fb_all (Classical.not_not.1 a5') m hm
    exact sized_met ha (hn m hm) (hs.mets m hm)
end Go.Proofs.YtnhhaefoilhlhaaGreatDoor.files

/- file.reader: pieces, numbers, texts off bytes. Condition: the bytes are bytes, and not many. -/
set_option linter.unusedSimpArgs false
set_option linter.unusedVariables false
namespace Go.Proofs.YtnhhaefoilhlhaaGreatDoor.files
open Go.RowKit Go.Proofs.YtnhhaefoilhlhaaGreatDoor.lib Go.Proofs.YtnhhaefoilhlhaaGreatDoor.errs Go.Proofs.YtnhhaefoilhlhaaGreatDoor.names Go.Proofs.YtnhhaefoilhlhaaGreatDoor.descs Go.Proofs.YtnhhaefoilhlhaaGreatDoor.ins Go.Proofs.YtnhhaefoilhlhaaGreatDoor.flows Go.Proofs.YtnhhaefoilhlhaaGreatDoor.hdls Go.Proofs.YtnhhaefoilhlhaaGreatDoor.classes Go.Proofs.YtnhhaefoilhlhaaGreatDoor.txts Go.Proofs.YtnhhaefoilhlhaaGreatDoor.nums Go.Proofs.YtnhhaefoilhlhaaGreatDoor.keep

/-- what a reader panics with -/
def errF : List PanicEntry := [{ v := .iface 36 (.int .i64 1), recovered := false }]
/-- block p is a reader that has these bytes ahead: a piece of what lay in memory before it -/
structure RD (w0 : World) (p : Nat) (R : List Int) (w : World) : Prop where
  row : ∃ v, w.heap[p]? = some (.cells #[v] 65) ∧ Sl w0 v R.length 1 (R.map (.int .u8))
  below : Below w0.heap.size w0 w
  base : w0.heap.size ≤ p
  all : ∀ z ∈ R, 0 ≤ z ∧ z ≤ 255
  len : R.length ≤ 10000000
theorem RD.lt {w0 w : World} {p : Nat} {R : List Int} (h : RD w0 p R w) : p < w.heap.size := by
  obtain ⟨v, hv, _⟩ := h.row
  exact (Array.getElem?_eq_some_iff.1 hv).1
theorem RD.keeps {F : Nat → Prop} {w0 w w' : World} {p : Nat} {R : List Int} (h : RD w0 p R w) (hk : Keeps F w w') (hF : ∀ k, F k → w0.heap.size ≤ k ∧ k ≠ p) : RD w0 p R w' := by
  have hl := h.lt
  obtain ⟨v, hv, hs⟩ := h.row
  exact ⟨⟨v, (hk.block p hl (fun hf => (hF p hf).2 rfl)).trans hv, hs⟩, Keeps.below h.below h.below.size hk fun k hf => (hF k hf).1, h.base, h.all, h.len⟩
theorem RD.later {w0 w w' : World} {p : Nat} {R : List Int} (h : RD w0 p R w) (hb : Below w.heap.size w w') : RD w0 p R w' :=
  h.keeps (Keeps.of_below (F := fun _ => False) hb) fun _ hf => hf.elim
/-- what a reading answers -/
def Reads {T : Type} (w0 : World) (p : Nat) (w : World) (r : Option (T × List Int)) (val : T → Value → World → Prop) (e : Ending) (w' : World) : Prop := match r with
  | none => e = .panicked errF ∧ Keeps (fun k => k = p) w w'
  | some (x, R') => ∃ v, e = .returned v ∧ val x v w' ∧ RD w0 p R' w' ∧ Keeps (fun k => k = p) w w'
theorem reads_none {T : Type} {w0 w w' : World} {p : Nat} {r : Option (T × List Int)} {val : T → Value → World → Prop} (h : r = none) (hk : Keeps (fun k => k = p) w w') : Reads w0 p w r val (.panicked errF) w' := by subst h; exact ⟨rfl, hk⟩
theorem reads_some {T : Type} {w0 w w' : World} {p : Nat} {r : Option (T × List Int)} {val : T → Value → World → Prop} {x : T} {R : List Int} {v : Value} (h : r = some (x, R)) (hv : val x v w') (hr : RD w0 p R w') (hk : Keeps (fun k => k = p) w w') : Reads w0 p w r val (.returned v) w' := by subst h; exact ⟨v, rfl, hv, hr, hk⟩

def pieceOf (n : Nat) (R : List Int) : Option (List Int × List Int) := if R.length < n then none else some (R.take n, R.drop n)

set_option maxRecDepth 100000 in
set_option maxHeartbeats 1000000 in
theorem piece_any {w0 w : World} {p : Nat} {R : List Int} (n : Nat) (h : RD w0 p R w) (hn : n ≤ 10000000) :
    Calls Tryz.prog 19 #[.pointer (some ⟨p, 0, none⟩), .int .i64 (n : Int)] w (Reads w0 p w (pieceOf n R) fun X v _ => Sl w0 v X.length 1 (X.map (.int .u8))) := by
  obtain ⟨v, hv, hs⟩ := h.row
  obtain ⟨a, c, rfl⟩ := hs.val
  have hcap := hs.cap.2
  have HR := hid h
  have HV := hid hv
  have HS := hid hs
  have hl := h.len
  have q0 : w.cell? ⟨p, 0, none⟩ = some (.slice a R.length c) := by rw [cell_of_row _ _ _ _ _ _ hv]; rfl
  have q0f : w.frozen? ⟨p, 0, none⟩ = false := frozen_of_row _ _ _ _ _ hv
  clear h hs hv
  by_cases hlt : R.length < n
  · have HN := hid (show pieceOf n R = none from if_pos hlt)
    have k0 : (R.length : Int) < (n : Int) := by omega
    go_enter Tryz.func19, Tryz.ntmps19
    go_wp2
    exact ⟨rfl, reads_none HN.out (Keeps.refl _ _)⟩
  · have HN := hid (show pieceOf n R = some (R.take n, R.drop n) from if_neg hlt)
    have k0 : ¬ (R.length : Int) < (n : Int) := by omega
    have k1 : (n : Int) ≤ (R.length : Int) := by omega
    have k2 : (0 : Int) ≤ (n : Int) := by omega
    have k3 : (n : Int) ≤ (c : Int) := by omega
    have HT : Hid (Sl w0 (.slice a n c) (R.take n).length 1 ((R.take n).map (.int .u8))) := hid (by
      have := HS.out.take n (by omega)
      rw [List.length_take, Nat.min_eq_left (by omega), List.map_take]
      simpa using this)
    have HD : Hid (∀ a' c', a' = (if c = n then a else a.map (·.add (n * 1))) → c' = c - n → RD w0 p (R.drop n) (w.setCell ⟨p, 0, none⟩ (.slice a' (R.length - n) c'))) := hid (fun a' c' ha hc' => by
      have h1 := HS.out.drop n (by omega)
      subst ha hc'
      refine ⟨⟨_, heap_set HV.out 0 _, ?_⟩, HR.out.below.setCell HR.out.base _, HR.out.base, fun z hz => HR.out.all z (List.mem_of_mem_drop hz), by rw [List.length_drop]; have := HR.out.len; omega⟩
      rw [List.length_drop, List.map_drop]
      simpa using h1)
    have HK : Hid (∀ v, Keeps (fun k => k = p) w (w.setCell ⟨p, 0, none⟩ v)) := hid (fun v => Keeps.set w p 0 v)
    by_cases hcn : c = n
    · subst hcn
      rw [List.length_take, Nat.min_eq_left (by omega)] at HT
      go_enter Tryz.func19, Tryz.ntmps19
      go_wp2
      go_ret
      exact reads_some HN.out (by rw [List.length_take, Nat.min_eq_left (by omega)]; exact HT.out) (by have h1 := HD.out a 0 (by simp) (by omega); rwa [show R.length - c = 0 by omega] at h1) (HK.out _)
    · rw [List.length_take, Nat.min_eq_left (by omega)] at HT
      go_enter Tryz.func19, Tryz.ntmps19
      go_wp2
      go_ret
      exact reads_some HN.out (by rw [List.length_take, Nat.min_eq_left (by omega)]; exact HT.out) (HD.out _ _ (by simp [hcn, Addr.add_lit]) (by omega)) (HK.out _)

theorem reads_no {T : Type} {w0 w w' : World} {p : Nat} {r : Option (T × List Int)} {val : T → Value → World → Prop} {e : Ending} (h : Reads w0 p w r val e w') (hr : r = none) : e = .panicked errF ∧ Keeps (fun k => k = p) w w' := by subst hr; exact h
theorem reads_yes {T : Type} {w0 w w' : World} {p : Nat} {r : Option (T × List Int)} {val : T → Value → World → Prop} {e : Ending} {x : T} {R : List Int} (h : Reads w0 p w r val e w') (hr : r = some (x, R)) : ∃ v, e = .returned v ∧ val x v w' ∧ RD w0 p R w' ∧ Keeps (fun k => k = p) w w' := by subst hr; exact h

set_option maxRecDepth 100000 in
set_option maxHeartbeats 1000000 in
theorem number_any {w0 w : World} {p : Nat} {R : List Int} (h : RD w0 p R w) :
    Calls Tryz.prog 22 #[.pointer (some ⟨p, 0, none⟩)] w (Reads w0 p w (rdB R) fun z v _ => v = .int .i64 z) := by
  have HP := hid (piece_any 1 h (by decide))
  rw [show ((1 : Nat) : Int) = 1 from rfl] at HP
  have HR := hid h
  clear h
  go_enter Tryz.func22, Tryz.ntmps22
  go_wp2_with fail
  refine HP.out.mono ?_
  intro e w1 h1
  cases R with
  | nil =>
    obtain ⟨rfl, hk⟩ := reads_no h1 rfl
    exact ⟨rfl, reads_none rfl hk⟩
  | cons z r =>
    obtain ⟨v, rfl, hs, hr, hk⟩ := reads_yes (x := [z]) (R := r) h1 (by simp [pieceOf])
    have HK := hid hk
    have HR1 := hid hr
    obtain ⟨hz0, hz1⟩ := HR.out.all z (List.mem_cons_self ..)
    have hs1 := hs.below hr.below
    obtain ⟨a, c, rfl⟩ := hs1.val
    obtain ⟨b, off, rfl, hc⟩ := Sl.ints (K := .u8) hs1 (k := 0) (by simp)
    simp only [Nat.add_zero, List.getElem_cons_zero, List.length_singleton] at hc
    have hcap := hs1.cap.2
    clear hs hs1 hr hk h1
    rw [List.length_singleton]
    go_wp2
    go_ret
    exact reads_some rfl rfl HR1.out HK.out

set_option maxRecDepth 100000 in
set_option maxHeartbeats 1000000 in
theorem rtext_any {w0 w : World} {p : Nat} {R : List Int} (h : RD w0 p R w) :
    Calls Tryz.prog 20 #[.pointer (some ⟨p, 0, none⟩)] w (Reads w0 p w (rdT R) fun s v _ => v = .string s) := by
  have HN := hid (number_any h)
  have HR := hid h
  clear h
  go_enter Tryz.func20, Tryz.ntmps20
  go_wp2_with fail
  refine HN.out.mono ?_
  intro e w1 h1
  cases R with
  | nil =>
    obtain ⟨rfl, hk⟩ := reads_no h1 rfl
    exact ⟨rfl, reads_none rfl hk⟩
  | cons z r =>
    obtain ⟨v, rfl, rfl, hr, hk⟩ := reads_yes h1 rfl
    obtain ⟨hz0, hz1⟩ := HR.out.all z (List.mem_cons_self ..)
    obtain ⟨n, rfl⟩ : ∃ n : Nat, z = (n : Int) := ⟨z.toNat, by omega⟩
    have HK := hid hk
    have HP := hid (piece_any n hr (by omega))
    clear h1 hr hk
    go_wp2_with fail
    refine HP.out.mono ?_
    intro e w2 h2
    by_cases hlt : r.length < n
    · obtain ⟨rfl, hk2⟩ := reads_no h2 (if_pos hlt)
      exact ⟨rfl, reads_none (by rw [rdT, if_pos (by omega)]) (HK.out.trans hk2)⟩
    · obtain ⟨v, rfl, hs, hr2, hk2⟩ := reads_yes h2 (if_neg hlt)
      have HR2 := hid hr2
      have HK2 := hid (HK.out.trans hk2)
      have HE := hid (show rdT ((n : Int) :: r) = some (strOfNums (r.take n), r.drop n) by rw [rdT, if_neg (by omega), Int.toNat_natCast])
      obtain ⟨X, hX⟩ : ∃ X, r.take n = X := ⟨_, rfl⟩
      rw [hX] at hs HE
      obtain ⟨m, hm⟩ : ∃ m, X.length = m := ⟨_, rfl⟩
      rw [hm] at hs
      have hcs := run_conv_str (P := Tryz.prog) Tryz.underlying27 Tryz.underlying5 Tryz.underlying9 (hs.below hr2.below)
      obtain ⟨a, c, rfl⟩ := hs.val
      obtain ⟨S, hS⟩ : ∃ S, strOfNums X = S := ⟨_, rfl⟩
      rw [hS] at hcs HE
      clear hs hr2 hk2 h2 hS hX hm
      go_wp2
      go_ret
      exact reads_some HE.out rfl HR2.out HK2.out
end Go.Proofs.YtnhhaefoilhlhaaGreatDoor.files

/- file.Decode's closure for fields; file.reader.method's for handlers. Conditions as for the reader. -/
set_option linter.unusedSimpArgs false
set_option linter.unusedVariables false
namespace Go.Proofs.YtnhhaefoilhlhaaGreatDoor.files
open Go.RowKit Go.Proofs.YtnhhaefoilhlhaaGreatDoor.lib Go.Proofs.YtnhhaefoilhlhaaGreatDoor.errs Go.Proofs.YtnhhaefoilhlhaaGreatDoor.names Go.Proofs.YtnhhaefoilhlhaaGreatDoor.descs Go.Proofs.YtnhhaefoilhlhaaGreatDoor.ins Go.Proofs.YtnhhaefoilhlhaaGreatDoor.flows Go.Proofs.YtnhhaefoilhlhaaGreatDoor.hdls Go.Proofs.YtnhhaefoilhlhaaGreatDoor.classes Go.Proofs.YtnhhaefoilhlhaaGreatDoor.txts Go.Proofs.YtnhhaefoilhlhaaGreatDoor.nums Go.Proofs.YtnhhaefoilhlhaaGreatDoor.keep Go.Proofs.YtnhhaefoilhlhaaGreatDoor.grow

theorem RD.drew {w0 w : World} {p : Nat} {R : List Int} (h : RD w0 p R w) : RD w0 p R w.drew := ⟨h.row, h.below.drew, h.base, h.all, h.len⟩
theorem kp_row {w u : World} {p b : Nat} {o : Obj} (hk : Keeps (fun k => k = p) w u) (h : w.heap[b]? = some o) (hb : b ≠ p) : u.heap[b]? = some o := (hk.block b (Array.getElem?_eq_some_iff.1 h).1 hb).trans h
theorem keeps_rowF (w : World) (g : Nat) (cs : Array Value) : Keeps (fun k => k = g) w (w.setRow g cs) := ⟨rfl, rfl, rfl, by simp, fun k _ hne => setRow_other w g k _ hne⟩
theorem kp_alloc {w u : World} {p : Nat} {o : Obj} (hk : Keeps (fun k => k = p) (w.alloc o).drew u) : Keeps (fun k => k = p) w u := by
  have h : Keeps (fun k => k = p) (w.alloc o) (w.alloc o).drew := ⟨rfl, rfl, rfl, Nat.le_refl _, fun _ _ _ => rfl⟩
  exact ((Keeps.alloc _ w o).trans h).trans hk
theorem c_two {P : Program} {ops : Array Oper} {Q : Exit → Act → World → Prop} {C : World → Prop} {n : Nat} {listed : Array Bool} {a : Act} {w : World} (i j : Nat) (oi oj : Oper) (hi : ops[i]? = some oi) (hj : ops[j]? = some oj) (hr : Region.ready .any ops listed = [i, j])
    (h1 : if Region.wanted oi (yielded ops a.tmps) = true then oi.wp P a w (fun a' w' => C w' ∧ wpAnyC P .any ops Q C n (listed.setIfInBounds i true) a' w') Q else False)
    (h2 : if Region.wanted oj (yielded ops a.tmps) = true then oj.wp P a w (fun a' w' => C w' ∧ wpAnyC P .any ops Q C n (listed.setIfInBounds j true) a' w') Q else False) : wpAnyC P .any ops Q C (n + 1) listed a w := by
  refine ⟨fun h0 => (by rw [hr] at h0; cases h0), fun k hk => ?_⟩
  rw [hr] at hk
  rcases List.mem_cons.1 hk with rfl | hk
  · unfold wpOp
    simp only [hi]
    by_cases hw : Region.wanted oi (yielded ops a.tmps) = true
    · rw [if_pos hw] at h1 ⊢; exact .inl h1
    · rw [if_neg hw] at h1; exact h1.elim
  · obtain rfl := List.mem_singleton.1 hk
    unfold wpOp
    simp only [hj]
    by_cases hw : Region.wanted oj (yielded ops a.tmps) = true
    · rw [if_pos hw] at h2 ⊢; exact .inl h2
    · rw [if_neg hw] at h2; exact h2.elim

set_option maxRecDepth 100000 in
set_option maxHeartbeats 2000000 in
theorem fclos_any {w0 w : World} {p bx : Nat} {R : List Int} (h : RD w0 p R w) (hb : w.heap[bx]? = some (.cells #[.pointer (some ⟨p, 0, none⟩)] 63)) (hne : bx ≠ p) :
    Calls Tryz.prog 24 #[.pointer (some ⟨bx, 0, none⟩)] w (Reads w0 p w (rdF R) fun x v _ => v = .agg #[.string x.nm, .string x.ty]) := by
  have HNE := hid hne
  have hpl := h.lt
  have hbs := h.base
  have hbl := (Array.getElem?_eq_some_iff.1 hb).1
  obtain ⟨g, hg⟩ : ∃ g, w.heap.size = g := ⟨_, rfl⟩
  have HGP : Hid (g ≠ p ∧ bx ≠ g ∧ w0.heap.size ≤ g) := hid (by omega)
  obtain ⟨W0, hW0⟩ : ∃ W0, w.alloc (.cells #[.string { data := #[] }, .string { data := #[] }] 55) = W0 := ⟨_, rfl⟩
  have R0 : Hid (RD w0 p R W0.drew) := hid (by subst hW0; exact (h.later (ext_alloc _ _)).drew)
  have X0 : Hid (W0.drew.heap[bx]? = some (.cells #[.pointer (some ⟨p, 0, none⟩)] 63)) := hid (by subst hW0; exact ((ext_alloc w _).block bx hbl).trans hb)
  have G0 : Hid (W0.drew.heap[g]? = some (.cells #[.string { data := #[] }, .string { data := #[] }] 55)) := hid (by subst hW0; rw [← hg]; exact heap_alloc_new _ _)
  have HKA : Hid (∀ u, Keeps (fun k => k = p) W0.drew u → Keeps (fun k => k = p) w u) := hid (fun u hu => by subst hW0; exact kp_alloc hu)
  have HGW : Hid (w.heap.size = g) := hid hg
  clear h hb hne hbl hpl hbs
  go_enter Tryz.func24, Tryz.ntmps24
  go_wp2_with fail
  refine wp_region_c (fun u => u.heap[bx]? = some (.cells #[.pointer (some ⟨p, 0, none⟩)] 63)) (by kernel_rfl) ?_
  clear hW0 hg
  refine c_take 0 _ _ rfl (by kernel_rfl) (by kernel_rfl) (by kernel_rfl) rfl (fun c a' w' h => ⟨(putC_defers _ _ _).symm.trans h.1, h.2⟩) X0.out (fun u hu => by
    have q0 := (cell_of_row _ _ 0 _ _ _ hu).trans (show (#[Value.pointer (some ⟨p, 0, none⟩)] : Array Value)[0]? = some (.pointer (some ⟨p, 0, none⟩)) from rfl)
    go_simp; rfl) ?_
  simp only [List.getElem_toArray, List.getElem_cons_zero, List.getElem_cons_succ, Act.put, List.setIfInBounds_toArray, List.set_cons_zero, List.set_cons_succ]
  refine c_take 2 _ _ rfl (by kernel_rfl) (by kernel_rfl) (by kernel_rfl) rfl (fun c a' w' h => ⟨(putC_defers _ _ _).symm.trans h.1, h.2⟩) X0.out (fun u hu => by
    have q0 := (cell_of_row _ _ 0 _ _ _ hu).trans (show (#[Value.pointer (some ⟨p, 0, none⟩)] : Array Value)[0]? = some (.pointer (some ⟨p, 0, none⟩)) from rfl)
    go_simp; rfl) ?_
  simp only [List.getElem_toArray, List.getElem_cons_zero, List.getElem_cons_succ, Act.put, List.setIfInBounds_toArray, List.set_cons_zero, List.set_cons_succ]
  refine c_only 1 _ rfl (by kernel_rfl) ?_
  go_simp
  refine (rtext_any R0.out).mono ?_
  intro e w1 h1
  cases hp1 : rdT R with
  | none =>
    obtain ⟨rfl, hk1⟩ := reads_no h1 hp1
    exact ⟨rfl, reads_none (by unfold rdF; rw [hp1]; rfl) (HKA.out _ hk1)⟩
  | some q1 =>
    obtain ⟨s1, R1⟩ := q1
    obtain ⟨v1, rfl, rfl, hr1, hk1⟩ := reads_yes h1 hp1
    have HR1 := hid hr1
    have HK1 := hid hk1
    have HP1 := hid hp1
    have X1 := hid (kp_row hk1 X0.out HNE.out)
    have G1 := hid (kp_row hk1 G0.out HGP.out.1)
    clear h1 hr1 hk1 hp1
    refine ⟨X1.out, ?_⟩
    try simp only [List.getElem_toArray, List.getElem_cons_zero, List.getElem_cons_succ, Act.put, List.setIfInBounds_toArray, List.set_cons_zero, List.set_cons_succ]
    refine c_only 3 _ rfl (by kernel_rfl) ?_
    go_simp
    refine (rtext_any HR1.out).mono ?_
    intro e w2 h2
    cases hp2 : rdT R1 with
    | none =>
      obtain ⟨rfl, hk2⟩ := reads_no h2 hp2
      exact ⟨rfl, reads_none (by unfold rdF; rw [HP1.out]; simp [hp2]) (HKA.out _ (HK1.out.trans hk2))⟩
    | some q2 =>
      obtain ⟨s2, R2⟩ := q2
      obtain ⟨v2, rfl, rfl, hr2, hk2⟩ := reads_yes h2 hp2
      have HF : Hid (rdF R = some (⟨s1, s2⟩, R2)) := hid (by unfold rdF; rw [HP1.out]; simp [hp2])
      have HR2 := hid hr2
      have HK2 := hid (HKA.out _ (HK1.out.trans hk2))
      have X2 := hid (kp_row hk2 X1.out HNE.out)
      have G2 := hid (kp_row hk2 G1.out HGP.out.1)
      clear h2 hr2 hk2 hp2
      refine ⟨X2.out, ?_⟩
      try simp only [List.getElem_toArray, List.getElem_cons_zero, List.getElem_cons_succ, Act.put, List.setIfInBounds_toArray, List.set_cons_zero, List.set_cons_succ]
      refine c_take 4 _ _ rfl (by kernel_rfl) (by kernel_rfl) (by kernel_rfl) rfl (fun c a' w' h => ⟨(putC_defers _ _ _).symm.trans h.1, h.2⟩) X2.out (fun u hu => by
        go_simp; rfl) ?_
      simp only [List.getElem_toArray, List.getElem_cons_zero, List.getElem_cons_succ, Act.put, List.setIfInBounds_toArray, List.set_cons_zero, List.set_cons_succ]
      refine c_only 5 _ rfl (by kernel_rfl) ?_
      rw [if_pos (by rfl)]
      refine wp_store_row 55 (.tmp 1) (.tmp 6) rfl g #[.string s1, .string s2] rfl rfl 55 _ G2.out (by kernel_rfl) rfl (by simp [Value.oneCell']) ?_
      have X3 := hid ((setRow_other w2 g bx #[.string s1, .string s2] HGP.out.2.1).trans X2.out)
      have G3 := hid (setRow_heap w2 g _ #[.string s1, .string s2] _ _ G2.out)
      have HR3 : Hid (RD w0 p R2 (w2.setRow g #[.string s1, .string s2])) := hid (HR2.out.keeps (keeps_rowF w2 g _) fun k hk => by subst hk; exact ⟨HGP.out.2.2, HGP.out.1⟩)
      have HK3 : Hid (Keeps (fun k => k = p) w (w2.setRow g #[.string s1, .string s2])) := hid (HK2.out.then (keeps_rowF w2 g _) fun k hk h => by have := HGW.out; omega)
      refine ⟨X3.out, ?_⟩
      refine c_end (by kernel_rfl) ?_
      go_wp2
      try simp only [Exit.inBlock, Exit.then]
      refine bodyPost_ret (results_cell_row rfl _ _ g 55 _ (0, 0) _ rfl G3.out Tryz.underlying55 rfl (by kernel_rfl)) rfl ?_
      exact reads_some HF.out rfl HR3.out HK3.out

end Go.Proofs.YtnhhaefoilhlhaaGreatDoor.files

/- file.reader.method's closure for handlers. Conditions as for the reader. -/
set_option linter.unusedSimpArgs false
set_option linter.unusedVariables false
namespace Go.Proofs.YtnhhaefoilhlhaaGreatDoor.files
open Go.RowKit Go.Proofs.YtnhhaefoilhlhaaGreatDoor.lib Go.Proofs.YtnhhaefoilhlhaaGreatDoor.errs Go.Proofs.YtnhhaefoilhlhaaGreatDoor.names Go.Proofs.YtnhhaefoilhlhaaGreatDoor.descs Go.Proofs.YtnhhaefoilhlhaaGreatDoor.ins Go.Proofs.YtnhhaefoilhlhaaGreatDoor.flows Go.Proofs.YtnhhaefoilhlhaaGreatDoor.hdls Go.Proofs.YtnhhaefoilhlhaaGreatDoor.classes Go.Proofs.YtnhhaefoilhlhaaGreatDoor.txts Go.Proofs.YtnhhaefoilhlhaaGreatDoor.nums Go.Proofs.YtnhhaefoilhlhaaGreatDoor.keep Go.Proofs.YtnhhaefoilhlhaaGreatDoor.grow

set_option maxRecDepth 100000 in
set_option maxHeartbeats 8000000 in
theorem hclos_any {w0 w : World} {p bx : Nat} {R : List Int} (h : RD w0 p R w) (hb : w.heap[bx]? = some (.cells #[.pointer (some ⟨p, 0, none⟩)] 63)) (hne : bx ≠ p) :
    Calls Tryz.prog 42 #[.pointer (some ⟨bx, 0, none⟩)] w (Reads w0 p w (rdH R) fun x v _ => v = .agg #[.int .i64 x.fr, .int .i64 x.til, .int .i64 x.at_, .string x.cls]) := by
  have HNE := hid hne
  have hpl := h.lt
  have hbs := h.base
  have hbl := (Array.getElem?_eq_some_iff.1 hb).1
  obtain ⟨g, hg⟩ : ∃ g, w.heap.size = g := ⟨_, rfl⟩
  have HGP : Hid (g ≠ p ∧ bx ≠ g ∧ w0.heap.size ≤ g) := hid (by omega)
  obtain ⟨W0, hW0⟩ : ∃ W0, w.alloc (.cells #[.int .i64 0, .int .i64 0, .int .i64 0, .string { data := #[] }] 90) = W0 := ⟨_, rfl⟩
  obtain ⟨w_s, hws⟩ : ∃ W, W0.drew = W := ⟨_, rfl⟩
  have HRs : Hid (RD w0 p R w_s) := hid (by subst hws hW0; exact (h.later (ext_alloc _ _)).drew)
  have Xs : Hid (w_s.heap[bx]? = some (.cells #[.pointer (some ⟨p, 0, none⟩)] 63)) := hid (by subst hws hW0; exact ((ext_alloc w _).block bx hbl).trans hb)
  have Gs : Hid (w_s.heap[g]? = some (.cells #[.int .i64 0, .int .i64 0, .int .i64 0, .string { data := #[] }] 90)) := hid (by subst hws hW0; rw [← hg]; exact heap_alloc_new _ _)
  have HKs : Hid (Keeps (fun k => k = p) w w_s) := hid (by subst hws hW0; exact kp_alloc (Keeps.refl _ _))
  have HGW : Hid (w.heap.size = g) := hid hg
  clear h hb hne hbl hpl hbs
  go_enter Tryz.func42, Tryz.ntmps42
  go_wp2_with fail
  refine wp_region_c (fun u => u.heap[bx]? = some (.cells #[.pointer (some ⟨p, 0, none⟩)] 63)) (by kernel_rfl) ?_
  show wpAnyC _ _ _ _ _ _ _ _ W0.drew
  rw [hws]
  clear hws hW0 hg
  refine c_take 0 _ _ rfl (by kernel_rfl) (by kernel_rfl) (by kernel_rfl) rfl (fun c a' w' h => ⟨(putC_defers _ _ _).symm.trans h.1, h.2⟩) Xs.out (fun u hu => by
    have q0 := (cell_of_row _ _ 0 _ _ _ hu).trans (show (#[Value.pointer (some ⟨p, 0, none⟩)] : Array Value)[0]? = some (.pointer (some ⟨p, 0, none⟩)) from rfl)
    go_simp; rfl) ?_
  simp only [List.getElem_toArray, List.getElem_cons_zero, List.getElem_cons_succ, Act.put, List.setIfInBounds_toArray, List.set_cons_zero, List.set_cons_succ]
  refine c_take 2 _ _ rfl (by kernel_rfl) (by kernel_rfl) (by kernel_rfl) rfl (fun c a' w' h => ⟨(putC_defers _ _ _).symm.trans h.1, h.2⟩) Xs.out (fun u hu => by
    have q0 := (cell_of_row _ _ 0 _ _ _ hu).trans (show (#[Value.pointer (some ⟨p, 0, none⟩)] : Array Value)[0]? = some (.pointer (some ⟨p, 0, none⟩)) from rfl)
    go_simp; rfl) ?_
  simp only [List.getElem_toArray, List.getElem_cons_zero, List.getElem_cons_succ, Act.put, List.setIfInBounds_toArray, List.set_cons_zero, List.set_cons_succ]
  refine c_take 4 _ _ rfl (by kernel_rfl) (by kernel_rfl) (by kernel_rfl) rfl (fun c a' w' h => ⟨(putC_defers _ _ _).symm.trans h.1, h.2⟩) Xs.out (fun u hu => by
    have q0 := (cell_of_row _ _ 0 _ _ _ hu).trans (show (#[Value.pointer (some ⟨p, 0, none⟩)] : Array Value)[0]? = some (.pointer (some ⟨p, 0, none⟩)) from rfl)
    go_simp; rfl) ?_
  simp only [List.getElem_toArray, List.getElem_cons_zero, List.getElem_cons_succ, Act.put, List.setIfInBounds_toArray, List.set_cons_zero, List.set_cons_succ]
  refine c_two 1 7 _ _ rfl rfl (by kernel_rfl) ?_ ?_
  · go_simp
    refine (number_any HRs.out).mono ?_
    intro e w_sc hsc
    cases hp : rdB R with
    | none =>
      obtain ⟨rfl, hk⟩ := reads_no hsc hp
      exact ⟨rfl, reads_none (by unfold rdH; rw [hp]; rfl) (HKs.out.trans hk)⟩
    | some q =>
      obtain ⟨z1, R1⟩ := q
      obtain ⟨v, rfl, rfl, hr, hk⟩ := reads_yes hsc hp
      have HRsc := hid hr
      have HKsc := hid (HKs.out.trans hk)
      have HP1 := hid hp
      have Xsc := hid (kp_row hk Xs.out HNE.out)
      have Gsc := hid (kp_row hk Gs.out HGP.out.1)
      clear hsc hr hk hp
      refine ⟨Xsc.out, ?_⟩
      try simp only [List.getElem_toArray, List.getElem_cons_zero, List.getElem_cons_succ, Act.put, List.setIfInBounds_toArray, List.set_cons_zero, List.set_cons_succ]
      refine c_two 3 7 _ _ rfl rfl (by kernel_rfl) ?_ ?_
      · go_simp
        refine (number_any HRsc.out).mono ?_
        intro e w_scc hscc
        cases hp : rdB R1 with
        | none =>
          obtain ⟨rfl, hk⟩ := reads_no hscc hp
          exact ⟨rfl, reads_none (by unfold rdH; rw [HP1.out]; simp [hp]) (HKsc.out.trans hk)⟩
        | some q =>
          obtain ⟨z2, R2⟩ := q
          obtain ⟨v, rfl, rfl, hr, hk⟩ := reads_yes hscc hp
          have HRscc := hid hr
          have HKscc := hid (HKsc.out.trans hk)
          have HP2 := hid hp
          have Xscc := hid (kp_row hk Xsc.out HNE.out)
          have Gscc := hid (kp_row hk Gsc.out HGP.out.1)
          clear hscc hr hk hp
          refine ⟨Xscc.out, ?_⟩
          try simp only [List.getElem_toArray, List.getElem_cons_zero, List.getElem_cons_succ, Act.put, List.setIfInBounds_toArray, List.set_cons_zero, List.set_cons_succ]
          refine c_two 5 7 _ _ rfl rfl (by kernel_rfl) ?_ ?_
          · go_simp
            refine (number_any HRscc.out).mono ?_
            intro e w_sccc hsccc
            cases hp : rdB R2 with
            | none =>
              obtain ⟨rfl, hk⟩ := reads_no hsccc hp
              exact ⟨rfl, reads_none (by unfold rdH; rw [HP1.out]; simp [HP2.out, hp]) (HKscc.out.trans hk)⟩
            | some q =>
              obtain ⟨z3, R3⟩ := q
              obtain ⟨v, rfl, rfl, hr, hk⟩ := reads_yes hsccc hp
              have HRsccc := hid hr
              have HKsccc := hid (HKscc.out.trans hk)
              have HP3 := hid hp
              have Xsccc := hid (kp_row hk Xscc.out HNE.out)
              have Gsccc := hid (kp_row hk Gscc.out HGP.out.1)
              clear hsccc hr hk hp
              refine ⟨Xsccc.out, ?_⟩
              try simp only [List.getElem_toArray, List.getElem_cons_zero, List.getElem_cons_succ, Act.put, List.setIfInBounds_toArray, List.set_cons_zero, List.set_cons_succ]
              refine c_take 6 _ _ rfl (by kernel_rfl) (by kernel_rfl) (by kernel_rfl) rfl (fun c a' w' h => ⟨(putC_defers _ _ _).symm.trans h.1, h.2⟩) Xsccc.out (fun u hu => by
                go_simp; rfl) ?_
              simp only [List.getElem_toArray, List.getElem_cons_zero, List.getElem_cons_succ, Act.put, List.setIfInBounds_toArray, List.set_cons_zero, List.set_cons_succ]
              refine c_only 7 _ rfl (by kernel_rfl) ?_
              obtain ⟨g2, hg2⟩ : ∃ g2, w_sccc.heap.size = g2 := ⟨_, rfl⟩
              have HQP : Hid (g2 ≠ p ∧ g ≠ g2 ∧ w.heap.size < g2 ∧ w0.heap.size ≤ g2 ∧ bx ≠ g2) := hid (by
                have h1 := HRsccc.out.lt
                have h2 := (Array.getElem?_eq_some_iff.1 Gsccc.out).1
                have h4 := HGP.out.2.2
                have h5 := HGW.out
                have h6 := (Array.getElem?_eq_some_iff.1 Xsccc.out).1
                omega)
              obtain ⟨w_sccca, hW⟩ : ∃ W, w_sccc.alloc (.cells #[.int .i64 0, .int .i64 0, .int .i64 0, .string { data := #[] }] 90) = W := ⟨_, rfl⟩
              have Xsccca : Hid (w_sccca.heap[bx]? = some (.cells #[.pointer (some ⟨p, 0, none⟩)] 63)) := hid (by subst hW; exact ((ext_alloc w_sccc _).block bx (Array.getElem?_eq_some_iff.1 Xsccc.out).1).trans Xsccc.out)
              have Gsccca : Hid (w_sccca.heap[g]? = some (.cells #[.int .i64 0, .int .i64 0, .int .i64 0, .string { data := #[] }] 90)) := hid (by subst hW; exact ((ext_alloc w_sccc _).block g (Array.getElem?_eq_some_iff.1 Gsccc.out).1).trans Gsccc.out)
              have Dsccca : Hid (w_sccca.heap[g2]? = some (.cells #[.int .i64 0, .int .i64 0, .int .i64 0, .string { data := #[] }] 90)) := hid (by subst hW; rw [← hg2]; exact heap_alloc_new _ _)
              have HRsccca : Hid (RD w0 p R3 w_sccca) := hid (by subst hW; exact HRsccc.out.later (ext_alloc _ _))
              have HKsccca : Hid (Keeps (fun k => k = p) w w_sccca) := hid (by subst hW; exact HKsccc.out.trans (Keeps.alloc _ w_sccc _))
              go_simp
              refine ⟨Xsccca.out, ?_⟩
              try simp only [List.getElem_toArray, List.getElem_cons_zero, List.getElem_cons_succ, Act.put, List.setIfInBounds_toArray, List.set_cons_zero, List.set_cons_succ]
              clear hW hg2
              refine c_only 8 _ rfl (by kernel_rfl) ?_
              rw [if_pos (by rfl)]
              refine wp_store_row 90 (.tmp 2) (.tmp 9) rfl g2 #[.int .i64 z1, .int .i64 z2, .int .i64 z3, .string { data := #[] }] rfl rfl 90 _ Dsccca.out (by kernel_rfl) rfl (by simp [Value.oneCell']) ?_
              obtain ⟨W5, hW5⟩ : ∃ W5, w_sccca.setRow g2 #[.int .i64 z1, .int .i64 z2, .int .i64 z3, .string { data := #[] }] = W5 := ⟨_, rfl⟩
              have KS : Hid (Keeps (fun k => k = g2) w_sccca W5) := hid (by subst hW5; exact keeps_rowF w_sccca g2 _)
              have D4 : Hid (W5.heap[g2]? = some (.cells #[.int .i64 z1, .int .i64 z2, .int .i64 z3, .string { data := #[] }] 90)) := hid (by subst hW5; exact setRow_heap w_sccca g2 _ _ _ _ Dsccca.out)
              have X4 : Hid (W5.heap[bx]? = some (.cells #[.pointer (some ⟨p, 0, none⟩)] 63)) := hid ((KS.out.block bx (Array.getElem?_eq_some_iff.1 Xsccca.out).1 HQP.out.2.2.2.2).trans Xsccca.out)
              have G4 : Hid (W5.heap[g]? = some (.cells #[.int .i64 0, .int .i64 0, .int .i64 0, .string { data := #[] }] 90)) := hid ((KS.out.block g (Array.getElem?_eq_some_iff.1 Gsccca.out).1 HQP.out.2.1).trans Gsccca.out)
              have HR4 : Hid (RD w0 p R3 W5) := hid (HRsccca.out.keeps KS.out fun k hk => by subst hk; exact ⟨HQP.out.2.2.2.1, HQP.out.1⟩)
              have HK4 : Hid (Keeps (fun k => k = p) w W5) := hid (HKsccca.out.then KS.out fun k hk h => by have h1 := HQP.out.2.2.1; omega)
              rw [hW5]
              clear hW5
              refine ⟨X4.out, ?_⟩
              refine c_end (by kernel_rfl) ?_
              have b0 := (cell_of_row _ _ 0 _ _ _ X4.out).trans (show (#[Value.pointer (some ⟨p, 0, none⟩)] : Array Value)[0]? = some (.pointer (some ⟨p, 0, none⟩)) from rfl)
              go_wp2_with fail
              refine (rtext_any HR4.out).mono ?_
              intro e w5 h5
              cases hp5 : rdT R3 with
              | none =>
                obtain ⟨rfl, hk5⟩ := reads_no h5 hp5
                exact ⟨rfl, reads_none (by unfold rdH; rw [HP1.out]; simp [HP2.out, HP3.out, hp5]) (HK4.out.trans hk5)⟩
              | some q5 =>
                obtain ⟨s5, R5⟩ := q5
                obtain ⟨v5, rfl, rfl, hr5, hk5⟩ := reads_yes h5 hp5
                have HF : Hid (rdH R = some (⟨z1, z2, z3, s5⟩, R5)) := hid (by unfold rdH; rw [HP1.out]; simp [HP2.out, HP3.out, hp5])
                have HR5 := hid hr5
                have HK5 := hid (HK4.out.trans hk5)
                have G5 := hid (kp_row hk5 G4.out HGP.out.1)
                have D5 := hid (kp_row hk5 D4.out HQP.out.1)
                clear h5 hr5 hk5 hp5 b0
                have c3 : w5.cell? ⟨g2, 3, none⟩ = some (.string { data := #[] }) := by rw [cell_of_row _ _ _ _ _ _ D5.out]; rfl
                have c3f : w5.frozen? ⟨g2, 3, none⟩ = false := frozen_of_row _ _ _ _ _ D5.out
                obtain ⟨W6, hW6⟩ : ∃ W6, w5.setCell ⟨g2, 3, none⟩ (.string s5) = W6 := ⟨_, rfl⟩
                have D6 : Hid (W6.heap[g2]? = some (.cells #[.int .i64 z1, .int .i64 z2, .int .i64 z3, .string s5] 90)) := hid (by subst hW6; exact heap_set D5.out 3 _)
                have G6 : Hid (W6.heap[g]? = some (.cells #[.int .i64 0, .int .i64 0, .int .i64 0, .string { data := #[] }] 90)) := hid (by subst hW6; exact ((Keeps.set w5 g2 3 (.string s5)).block g (Array.getElem?_eq_some_iff.1 G5.out).1 HQP.out.2.1).trans G5.out)
                have HR6 : Hid (RD w0 p R5 W6) := hid (by subst hW6; exact HR5.out.keeps (Keeps.set w5 g2 3 _) fun k hk => by subst hk; exact ⟨HQP.out.2.2.2.1, HQP.out.1⟩)
                have HK6 : Hid (Keeps (fun k => k = p) w W6) := hid (by subst hW6; exact HK5.out.then (Keeps.set w5 g2 3 _) fun k hk h => by have := HQP.out.2.2.1; omega)
                go_wp2_with (first | (refine wpList_load_row rfl 90 (.tmp 2) rfl g2 rfl _ _ _ _ D6.out Tryz.underlying90 rfl (by kernel_rfl) ?_) | (refine wpList_store_row rfl 90 (.tmp 1) (.tmp 13) rfl g #[.int .i64 z1, .int .i64 z2, .int .i64 z3, .string s5] rfl rfl 90 _ G6.out (by kernel_rfl) rfl (by simp [Value.oneCell']) ?_))
                clear c3 c3f hW6
                have G7 := hid (setRow_heap W6 g _ #[.int .i64 z1, .int .i64 z2, .int .i64 z3, .string s5] _ _ G6.out)
                have HR7 : Hid (RD w0 p R5 (W6.setRow g #[.int .i64 z1, .int .i64 z2, .int .i64 z3, .string s5])) := hid (HR6.out.keeps (keeps_rowF W6 g _) fun k hk => by subst hk; exact ⟨HGP.out.2.2, HGP.out.1⟩)
                have HK7 : Hid (Keeps (fun k => k = p) w (W6.setRow g #[.int .i64 z1, .int .i64 z2, .int .i64 z3, .string s5])) := hid (HK6.out.then (keeps_rowF W6 g _) fun k hk h => by have := HGW.out; omega)
                try simp only [Exit.inBlock, Exit.then]
                refine bodyPost_ret (results_cell_row rfl _ _ g 90 _ (0, 0) _ rfl G7.out Tryz.underlying90 rfl (by kernel_rfl)) rfl ?_
                exact reads_some HF.out rfl HR7.out HK7.out
          · obtain ⟨g2, hg2⟩ : ∃ g2, w_scc.heap.size = g2 := ⟨_, rfl⟩
            have HQP : Hid (g2 ≠ p ∧ g ≠ g2 ∧ w.heap.size < g2 ∧ w0.heap.size ≤ g2 ∧ bx ≠ g2) := hid (by
              have h1 := HRscc.out.lt
              have h2 := (Array.getElem?_eq_some_iff.1 Gscc.out).1
              have h4 := HGP.out.2.2
              have h5 := HGW.out
              have h6 := (Array.getElem?_eq_some_iff.1 Xscc.out).1
              omega)
            obtain ⟨w_scca, hW⟩ : ∃ W, w_scc.alloc (.cells #[.int .i64 0, .int .i64 0, .int .i64 0, .string { data := #[] }] 90) = W := ⟨_, rfl⟩
            have Xscca : Hid (w_scca.heap[bx]? = some (.cells #[.pointer (some ⟨p, 0, none⟩)] 63)) := hid (by subst hW; exact ((ext_alloc w_scc _).block bx (Array.getElem?_eq_some_iff.1 Xscc.out).1).trans Xscc.out)
            have Gscca : Hid (w_scca.heap[g]? = some (.cells #[.int .i64 0, .int .i64 0, .int .i64 0, .string { data := #[] }] 90)) := hid (by subst hW; exact ((ext_alloc w_scc _).block g (Array.getElem?_eq_some_iff.1 Gscc.out).1).trans Gscc.out)
            have Dscca : Hid (w_scca.heap[g2]? = some (.cells #[.int .i64 0, .int .i64 0, .int .i64 0, .string { data := #[] }] 90)) := hid (by subst hW; rw [← hg2]; exact heap_alloc_new _ _)
            have HRscca : Hid (RD w0 p R2 w_scca) := hid (by subst hW; exact HRscc.out.later (ext_alloc _ _))
            have HKscca : Hid (Keeps (fun k => k = p) w w_scca) := hid (by subst hW; exact HKscc.out.trans (Keeps.alloc _ w_scc _))
            go_simp
            refine ⟨Xscca.out, ?_⟩
            try simp only [List.getElem_toArray, List.getElem_cons_zero, List.getElem_cons_succ, Act.put, List.setIfInBounds_toArray, List.set_cons_zero, List.set_cons_succ]
            clear hW hg2
            refine c_only 5 _ rfl (by kernel_rfl) ?_
            go_simp
            refine (number_any HRscca.out).mono ?_
            intro e w_sccac hsccac
            cases hp : rdB R2 with
            | none =>
              obtain ⟨rfl, hk⟩ := reads_no hsccac hp
              exact ⟨rfl, reads_none (by unfold rdH; rw [HP1.out]; simp [HP2.out, hp]) (HKscca.out.trans hk)⟩
            | some q =>
              obtain ⟨z3, R3⟩ := q
              obtain ⟨v, rfl, rfl, hr, hk⟩ := reads_yes hsccac hp
              have HRsccac := hid hr
              have HKsccac := hid (HKscca.out.trans hk)
              have HP3 := hid hp
              have Xsccac := hid (kp_row hk Xscca.out HNE.out)
              have Gsccac := hid (kp_row hk Gscca.out HGP.out.1)
              have Dsccac := hid (kp_row hk Dscca.out HQP.out.1)
              clear hsccac hr hk hp
              refine ⟨Xsccac.out, ?_⟩
              try simp only [List.getElem_toArray, List.getElem_cons_zero, List.getElem_cons_succ, Act.put, List.setIfInBounds_toArray, List.set_cons_zero, List.set_cons_succ]
              refine c_take 6 _ _ rfl (by kernel_rfl) (by kernel_rfl) (by kernel_rfl) rfl (fun c a' w' h => ⟨(putC_defers _ _ _).symm.trans h.1, h.2⟩) Xsccac.out (fun u hu => by
                go_simp; rfl) ?_
              simp only [List.getElem_toArray, List.getElem_cons_zero, List.getElem_cons_succ, Act.put, List.setIfInBounds_toArray, List.set_cons_zero, List.set_cons_succ]
              refine c_only 8 _ rfl (by kernel_rfl) ?_
              rw [if_pos (by rfl)]
              refine wp_store_row 90 (.tmp 2) (.tmp 9) rfl g2 #[.int .i64 z1, .int .i64 z2, .int .i64 z3, .string { data := #[] }] rfl rfl 90 _ Dsccac.out (by kernel_rfl) rfl (by simp [Value.oneCell']) ?_
              obtain ⟨W5, hW5⟩ : ∃ W5, w_sccac.setRow g2 #[.int .i64 z1, .int .i64 z2, .int .i64 z3, .string { data := #[] }] = W5 := ⟨_, rfl⟩
              have KS : Hid (Keeps (fun k => k = g2) w_sccac W5) := hid (by subst hW5; exact keeps_rowF w_sccac g2 _)
              have D4 : Hid (W5.heap[g2]? = some (.cells #[.int .i64 z1, .int .i64 z2, .int .i64 z3, .string { data := #[] }] 90)) := hid (by subst hW5; exact setRow_heap w_sccac g2 _ _ _ _ Dsccac.out)
              have X4 : Hid (W5.heap[bx]? = some (.cells #[.pointer (some ⟨p, 0, none⟩)] 63)) := hid ((KS.out.block bx (Array.getElem?_eq_some_iff.1 Xsccac.out).1 HQP.out.2.2.2.2).trans Xsccac.out)
              have G4 : Hid (W5.heap[g]? = some (.cells #[.int .i64 0, .int .i64 0, .int .i64 0, .string { data := #[] }] 90)) := hid ((KS.out.block g (Array.getElem?_eq_some_iff.1 Gsccac.out).1 HQP.out.2.1).trans Gsccac.out)
              have HR4 : Hid (RD w0 p R3 W5) := hid (HRsccac.out.keeps KS.out fun k hk => by subst hk; exact ⟨HQP.out.2.2.2.1, HQP.out.1⟩)
              have HK4 : Hid (Keeps (fun k => k = p) w W5) := hid (HKsccac.out.then KS.out fun k hk h => by have h1 := HQP.out.2.2.1; omega)
              rw [hW5]
              clear hW5
              refine ⟨X4.out, ?_⟩
              refine c_end (by kernel_rfl) ?_
              have b0 := (cell_of_row _ _ 0 _ _ _ X4.out).trans (show (#[Value.pointer (some ⟨p, 0, none⟩)] : Array Value)[0]? = some (.pointer (some ⟨p, 0, none⟩)) from rfl)
              go_wp2_with fail
              refine (rtext_any HR4.out).mono ?_
              intro e w5 h5
              cases hp5 : rdT R3 with
              | none =>
                obtain ⟨rfl, hk5⟩ := reads_no h5 hp5
                exact ⟨rfl, reads_none (by unfold rdH; rw [HP1.out]; simp [HP2.out, HP3.out, hp5]) (HK4.out.trans hk5)⟩
              | some q5 =>
                obtain ⟨s5, R5⟩ := q5
                obtain ⟨v5, rfl, rfl, hr5, hk5⟩ := reads_yes h5 hp5
                have HF : Hid (rdH R = some (⟨z1, z2, z3, s5⟩, R5)) := hid (by unfold rdH; rw [HP1.out]; simp [HP2.out, HP3.out, hp5])
                have HR5 := hid hr5
                have HK5 := hid (HK4.out.trans hk5)
                have G5 := hid (kp_row hk5 G4.out HGP.out.1)
                have D5 := hid (kp_row hk5 D4.out HQP.out.1)
                clear h5 hr5 hk5 hp5 b0
                have c3 : w5.cell? ⟨g2, 3, none⟩ = some (.string { data := #[] }) := by rw [cell_of_row _ _ _ _ _ _ D5.out]; rfl
                have c3f : w5.frozen? ⟨g2, 3, none⟩ = false := frozen_of_row _ _ _ _ _ D5.out
                obtain ⟨W6, hW6⟩ : ∃ W6, w5.setCell ⟨g2, 3, none⟩ (.string s5) = W6 := ⟨_, rfl⟩
                have D6 : Hid (W6.heap[g2]? = some (.cells #[.int .i64 z1, .int .i64 z2, .int .i64 z3, .string s5] 90)) := hid (by subst hW6; exact heap_set D5.out 3 _)
                have G6 : Hid (W6.heap[g]? = some (.cells #[.int .i64 0, .int .i64 0, .int .i64 0, .string { data := #[] }] 90)) := hid (by subst hW6; exact ((Keeps.set w5 g2 3 (.string s5)).block g (Array.getElem?_eq_some_iff.1 G5.out).1 HQP.out.2.1).trans G5.out)
                have HR6 : Hid (RD w0 p R5 W6) := hid (by subst hW6; exact HR5.out.keeps (Keeps.set w5 g2 3 _) fun k hk => by subst hk; exact ⟨HQP.out.2.2.2.1, HQP.out.1⟩)
                have HK6 : Hid (Keeps (fun k => k = p) w W6) := hid (by subst hW6; exact HK5.out.then (Keeps.set w5 g2 3 _) fun k hk h => by have := HQP.out.2.2.1; omega)
                go_wp2_with (first | (refine wpList_load_row rfl 90 (.tmp 2) rfl g2 rfl _ _ _ _ D6.out Tryz.underlying90 rfl (by kernel_rfl) ?_) | (refine wpList_store_row rfl 90 (.tmp 1) (.tmp 13) rfl g #[.int .i64 z1, .int .i64 z2, .int .i64 z3, .string s5] rfl rfl 90 _ G6.out (by kernel_rfl) rfl (by simp [Value.oneCell']) ?_))
                clear c3 c3f hW6
                have G7 := hid (setRow_heap W6 g _ #[.int .i64 z1, .int .i64 z2, .int .i64 z3, .string s5] _ _ G6.out)
                have HR7 : Hid (RD w0 p R5 (W6.setRow g #[.int .i64 z1, .int .i64 z2, .int .i64 z3, .string s5])) := hid (HR6.out.keeps (keeps_rowF W6 g _) fun k hk => by subst hk; exact ⟨HGP.out.2.2, HGP.out.1⟩)
                have HK7 : Hid (Keeps (fun k => k = p) w (W6.setRow g #[.int .i64 z1, .int .i64 z2, .int .i64 z3, .string s5])) := hid (HK6.out.then (keeps_rowF W6 g _) fun k hk h => by have := HGW.out; omega)
                try simp only [Exit.inBlock, Exit.then]
                refine bodyPost_ret (results_cell_row rfl _ _ g 90 _ (0, 0) _ rfl G7.out Tryz.underlying90 rfl (by kernel_rfl)) rfl ?_
                exact reads_some HF.out rfl HR7.out HK7.out
      · obtain ⟨g2, hg2⟩ : ∃ g2, w_sc.heap.size = g2 := ⟨_, rfl⟩
        have HQP : Hid (g2 ≠ p ∧ g ≠ g2 ∧ w.heap.size < g2 ∧ w0.heap.size ≤ g2 ∧ bx ≠ g2) := hid (by
          have h1 := HRsc.out.lt
          have h2 := (Array.getElem?_eq_some_iff.1 Gsc.out).1
          have h4 := HGP.out.2.2
          have h5 := HGW.out
          have h6 := (Array.getElem?_eq_some_iff.1 Xsc.out).1
          omega)
        obtain ⟨w_sca, hW⟩ : ∃ W, w_sc.alloc (.cells #[.int .i64 0, .int .i64 0, .int .i64 0, .string { data := #[] }] 90) = W := ⟨_, rfl⟩
        have Xsca : Hid (w_sca.heap[bx]? = some (.cells #[.pointer (some ⟨p, 0, none⟩)] 63)) := hid (by subst hW; exact ((ext_alloc w_sc _).block bx (Array.getElem?_eq_some_iff.1 Xsc.out).1).trans Xsc.out)
        have Gsca : Hid (w_sca.heap[g]? = some (.cells #[.int .i64 0, .int .i64 0, .int .i64 0, .string { data := #[] }] 90)) := hid (by subst hW; exact ((ext_alloc w_sc _).block g (Array.getElem?_eq_some_iff.1 Gsc.out).1).trans Gsc.out)
        have Dsca : Hid (w_sca.heap[g2]? = some (.cells #[.int .i64 0, .int .i64 0, .int .i64 0, .string { data := #[] }] 90)) := hid (by subst hW; rw [← hg2]; exact heap_alloc_new _ _)
        have HRsca : Hid (RD w0 p R1 w_sca) := hid (by subst hW; exact HRsc.out.later (ext_alloc _ _))
        have HKsca : Hid (Keeps (fun k => k = p) w w_sca) := hid (by subst hW; exact HKsc.out.trans (Keeps.alloc _ w_sc _))
        go_simp
        refine ⟨Xsca.out, ?_⟩
        try simp only [List.getElem_toArray, List.getElem_cons_zero, List.getElem_cons_succ, Act.put, List.setIfInBounds_toArray, List.set_cons_zero, List.set_cons_succ]
        clear hW hg2
        refine c_only 3 _ rfl (by kernel_rfl) ?_
        go_simp
        refine (number_any HRsca.out).mono ?_
        intro e w_scac hscac
        cases hp : rdB R1 with
        | none =>
          obtain ⟨rfl, hk⟩ := reads_no hscac hp
          exact ⟨rfl, reads_none (by unfold rdH; rw [HP1.out]; simp [hp]) (HKsca.out.trans hk)⟩
        | some q =>
          obtain ⟨z2, R2⟩ := q
          obtain ⟨v, rfl, rfl, hr, hk⟩ := reads_yes hscac hp
          have HRscac := hid hr
          have HKscac := hid (HKsca.out.trans hk)
          have HP2 := hid hp
          have Xscac := hid (kp_row hk Xsca.out HNE.out)
          have Gscac := hid (kp_row hk Gsca.out HGP.out.1)
          have Dscac := hid (kp_row hk Dsca.out HQP.out.1)
          clear hscac hr hk hp
          refine ⟨Xscac.out, ?_⟩
          try simp only [List.getElem_toArray, List.getElem_cons_zero, List.getElem_cons_succ, Act.put, List.setIfInBounds_toArray, List.set_cons_zero, List.set_cons_succ]
          refine c_only 5 _ rfl (by kernel_rfl) ?_
          go_simp
          refine (number_any HRscac.out).mono ?_
          intro e w_scacc hscacc
          cases hp : rdB R2 with
          | none =>
            obtain ⟨rfl, hk⟩ := reads_no hscacc hp
            exact ⟨rfl, reads_none (by unfold rdH; rw [HP1.out]; simp [HP2.out, hp]) (HKscac.out.trans hk)⟩
          | some q =>
            obtain ⟨z3, R3⟩ := q
            obtain ⟨v, rfl, rfl, hr, hk⟩ := reads_yes hscacc hp
            have HRscacc := hid hr
            have HKscacc := hid (HKscac.out.trans hk)
            have HP3 := hid hp
            have Xscacc := hid (kp_row hk Xscac.out HNE.out)
            have Gscacc := hid (kp_row hk Gscac.out HGP.out.1)
            have Dscacc := hid (kp_row hk Dscac.out HQP.out.1)
            clear hscacc hr hk hp
            refine ⟨Xscacc.out, ?_⟩
            try simp only [List.getElem_toArray, List.getElem_cons_zero, List.getElem_cons_succ, Act.put, List.setIfInBounds_toArray, List.set_cons_zero, List.set_cons_succ]
            refine c_take 6 _ _ rfl (by kernel_rfl) (by kernel_rfl) (by kernel_rfl) rfl (fun c a' w' h => ⟨(putC_defers _ _ _).symm.trans h.1, h.2⟩) Xscacc.out (fun u hu => by
              go_simp; rfl) ?_
            simp only [List.getElem_toArray, List.getElem_cons_zero, List.getElem_cons_succ, Act.put, List.setIfInBounds_toArray, List.set_cons_zero, List.set_cons_succ]
            refine c_only 8 _ rfl (by kernel_rfl) ?_
            rw [if_pos (by rfl)]
            refine wp_store_row 90 (.tmp 2) (.tmp 9) rfl g2 #[.int .i64 z1, .int .i64 z2, .int .i64 z3, .string { data := #[] }] rfl rfl 90 _ Dscacc.out (by kernel_rfl) rfl (by simp [Value.oneCell']) ?_
            obtain ⟨W5, hW5⟩ : ∃ W5, w_scacc.setRow g2 #[.int .i64 z1, .int .i64 z2, .int .i64 z3, .string { data := #[] }] = W5 := ⟨_, rfl⟩
            have KS : Hid (Keeps (fun k => k = g2) w_scacc W5) := hid (by subst hW5; exact keeps_rowF w_scacc g2 _)
            have D4 : Hid (W5.heap[g2]? = some (.cells #[.int .i64 z1, .int .i64 z2, .int .i64 z3, .string { data := #[] }] 90)) := hid (by subst hW5; exact setRow_heap w_scacc g2 _ _ _ _ Dscacc.out)
            have X4 : Hid (W5.heap[bx]? = some (.cells #[.pointer (some ⟨p, 0, none⟩)] 63)) := hid ((KS.out.block bx (Array.getElem?_eq_some_iff.1 Xscacc.out).1 HQP.out.2.2.2.2).trans Xscacc.out)
            have G4 : Hid (W5.heap[g]? = some (.cells #[.int .i64 0, .int .i64 0, .int .i64 0, .string { data := #[] }] 90)) := hid ((KS.out.block g (Array.getElem?_eq_some_iff.1 Gscacc.out).1 HQP.out.2.1).trans Gscacc.out)
            have HR4 : Hid (RD w0 p R3 W5) := hid (HRscacc.out.keeps KS.out fun k hk => by subst hk; exact ⟨HQP.out.2.2.2.1, HQP.out.1⟩)
            have HK4 : Hid (Keeps (fun k => k = p) w W5) := hid (HKscacc.out.then KS.out fun k hk h => by have h1 := HQP.out.2.2.1; omega)
            rw [hW5]
            clear hW5
            refine ⟨X4.out, ?_⟩
            refine c_end (by kernel_rfl) ?_
            have b0 := (cell_of_row _ _ 0 _ _ _ X4.out).trans (show (#[Value.pointer (some ⟨p, 0, none⟩)] : Array Value)[0]? = some (.pointer (some ⟨p, 0, none⟩)) from rfl)
            go_wp2_with fail
            refine (rtext_any HR4.out).mono ?_
            intro e w5 h5
            cases hp5 : rdT R3 with
            | none =>
              obtain ⟨rfl, hk5⟩ := reads_no h5 hp5
              exact ⟨rfl, reads_none (by unfold rdH; rw [HP1.out]; simp [HP2.out, HP3.out, hp5]) (HK4.out.trans hk5)⟩
            | some q5 =>
              obtain ⟨s5, R5⟩ := q5
              obtain ⟨v5, rfl, rfl, hr5, hk5⟩ := reads_yes h5 hp5
              have HF : Hid (rdH R = some (⟨z1, z2, z3, s5⟩, R5)) := hid (by unfold rdH; rw [HP1.out]; simp [HP2.out, HP3.out, hp5])
              have HR5 := hid hr5
              have HK5 := hid (HK4.out.trans hk5)
              have G5 := hid (kp_row hk5 G4.out HGP.out.1)
              have D5 := hid (kp_row hk5 D4.out HQP.out.1)
              clear h5 hr5 hk5 hp5 b0
              have c3 : w5.cell? ⟨g2, 3, none⟩ = some (.string { data := #[] }) := by rw [cell_of_row _ _ _ _ _ _ D5.out]; rfl
              have c3f : w5.frozen? ⟨g2, 3, none⟩ = false := frozen_of_row _ _ _ _ _ D5.out
              obtain ⟨W6, hW6⟩ : ∃ W6, w5.setCell ⟨g2, 3, none⟩ (.string s5) = W6 := ⟨_, rfl⟩
              have D6 : Hid (W6.heap[g2]? = some (.cells #[.int .i64 z1, .int .i64 z2, .int .i64 z3, .string s5] 90)) := hid (by subst hW6; exact heap_set D5.out 3 _)
              have G6 : Hid (W6.heap[g]? = some (.cells #[.int .i64 0, .int .i64 0, .int .i64 0, .string { data := #[] }] 90)) := hid (by subst hW6; exact ((Keeps.set w5 g2 3 (.string s5)).block g (Array.getElem?_eq_some_iff.1 G5.out).1 HQP.out.2.1).trans G5.out)
              have HR6 : Hid (RD w0 p R5 W6) := hid (by subst hW6; exact HR5.out.keeps (Keeps.set w5 g2 3 _) fun k hk => by subst hk; exact ⟨HQP.out.2.2.2.1, HQP.out.1⟩)
              have HK6 : Hid (Keeps (fun k => k = p) w W6) := hid (by subst hW6; exact HK5.out.then (Keeps.set w5 g2 3 _) fun k hk h => by have := HQP.out.2.2.1; omega)
              go_wp2_with (first | (refine wpList_load_row rfl 90 (.tmp 2) rfl g2 rfl _ _ _ _ D6.out Tryz.underlying90 rfl (by kernel_rfl) ?_) | (refine wpList_store_row rfl 90 (.tmp 1) (.tmp 13) rfl g #[.int .i64 z1, .int .i64 z2, .int .i64 z3, .string s5] rfl rfl 90 _ G6.out (by kernel_rfl) rfl (by simp [Value.oneCell']) ?_))
              clear c3 c3f hW6
              have G7 := hid (setRow_heap W6 g _ #[.int .i64 z1, .int .i64 z2, .int .i64 z3, .string s5] _ _ G6.out)
              have HR7 : Hid (RD w0 p R5 (W6.setRow g #[.int .i64 z1, .int .i64 z2, .int .i64 z3, .string s5])) := hid (HR6.out.keeps (keeps_rowF W6 g _) fun k hk => by subst hk; exact ⟨HGP.out.2.2, HGP.out.1⟩)
              have HK7 : Hid (Keeps (fun k => k = p) w (W6.setRow g #[.int .i64 z1, .int .i64 z2, .int .i64 z3, .string s5])) := hid (HK6.out.then (keeps_rowF W6 g _) fun k hk h => by have := HGW.out; omega)
              try simp only [Exit.inBlock, Exit.then]
              refine bodyPost_ret (results_cell_row rfl _ _ g 90 _ (0, 0) _ rfl G7.out Tryz.underlying90 rfl (by kernel_rfl)) rfl ?_
              exact reads_some HF.out rfl HR7.out HK7.out
  · obtain ⟨g2, hg2⟩ : ∃ g2, w_s.heap.size = g2 := ⟨_, rfl⟩
    have HQP : Hid (g2 ≠ p ∧ g ≠ g2 ∧ w.heap.size < g2 ∧ w0.heap.size ≤ g2 ∧ bx ≠ g2) := hid (by
      have h1 := HRs.out.lt
      have h2 := (Array.getElem?_eq_some_iff.1 Gs.out).1
      have h4 := HGP.out.2.2
      have h5 := HGW.out
      have h6 := (Array.getElem?_eq_some_iff.1 Xs.out).1
      omega)
    obtain ⟨w_sa, hW⟩ : ∃ W, w_s.alloc (.cells #[.int .i64 0, .int .i64 0, .int .i64 0, .string { data := #[] }] 90) = W := ⟨_, rfl⟩
    have Xsa : Hid (w_sa.heap[bx]? = some (.cells #[.pointer (some ⟨p, 0, none⟩)] 63)) := hid (by subst hW; exact ((ext_alloc w_s _).block bx (Array.getElem?_eq_some_iff.1 Xs.out).1).trans Xs.out)
    have Gsa : Hid (w_sa.heap[g]? = some (.cells #[.int .i64 0, .int .i64 0, .int .i64 0, .string { data := #[] }] 90)) := hid (by subst hW; exact ((ext_alloc w_s _).block g (Array.getElem?_eq_some_iff.1 Gs.out).1).trans Gs.out)
    have Dsa : Hid (w_sa.heap[g2]? = some (.cells #[.int .i64 0, .int .i64 0, .int .i64 0, .string { data := #[] }] 90)) := hid (by subst hW; rw [← hg2]; exact heap_alloc_new _ _)
    have HRsa : Hid (RD w0 p R w_sa) := hid (by subst hW; exact HRs.out.later (ext_alloc _ _))
    have HKsa : Hid (Keeps (fun k => k = p) w w_sa) := hid (by subst hW; exact HKs.out.trans (Keeps.alloc _ w_s _))
    go_simp
    refine ⟨Xsa.out, ?_⟩
    try simp only [List.getElem_toArray, List.getElem_cons_zero, List.getElem_cons_succ, Act.put, List.setIfInBounds_toArray, List.set_cons_zero, List.set_cons_succ]
    clear hW hg2
    refine c_only 1 _ rfl (by kernel_rfl) ?_
    go_simp
    refine (number_any HRsa.out).mono ?_
    intro e w_sac hsac
    cases hp : rdB R with
    | none =>
      obtain ⟨rfl, hk⟩ := reads_no hsac hp
      exact ⟨rfl, reads_none (by unfold rdH; rw [hp]; rfl) (HKsa.out.trans hk)⟩
    | some q =>
      obtain ⟨z1, R1⟩ := q
      obtain ⟨v, rfl, rfl, hr, hk⟩ := reads_yes hsac hp
      have HRsac := hid hr
      have HKsac := hid (HKsa.out.trans hk)
      have HP1 := hid hp
      have Xsac := hid (kp_row hk Xsa.out HNE.out)
      have Gsac := hid (kp_row hk Gsa.out HGP.out.1)
      have Dsac := hid (kp_row hk Dsa.out HQP.out.1)
      clear hsac hr hk hp
      refine ⟨Xsac.out, ?_⟩
      try simp only [List.getElem_toArray, List.getElem_cons_zero, List.getElem_cons_succ, Act.put, List.setIfInBounds_toArray, List.set_cons_zero, List.set_cons_succ]
      refine c_only 3 _ rfl (by kernel_rfl) ?_
      go_simp
      refine (number_any HRsac.out).mono ?_
      intro e w_sacc hsacc
      cases hp : rdB R1 with
      | none =>
        obtain ⟨rfl, hk⟩ := reads_no hsacc hp
        exact ⟨rfl, reads_none (by unfold rdH; rw [HP1.out]; simp [hp]) (HKsac.out.trans hk)⟩
      | some q =>
        obtain ⟨z2, R2⟩ := q
        obtain ⟨v, rfl, rfl, hr, hk⟩ := reads_yes hsacc hp
        have HRsacc := hid hr
        have HKsacc := hid (HKsac.out.trans hk)
        have HP2 := hid hp
        have Xsacc := hid (kp_row hk Xsac.out HNE.out)
        have Gsacc := hid (kp_row hk Gsac.out HGP.out.1)
        have Dsacc := hid (kp_row hk Dsac.out HQP.out.1)
        clear hsacc hr hk hp
        refine ⟨Xsacc.out, ?_⟩
        try simp only [List.getElem_toArray, List.getElem_cons_zero, List.getElem_cons_succ, Act.put, List.setIfInBounds_toArray, List.set_cons_zero, List.set_cons_succ]
        refine c_only 5 _ rfl (by kernel_rfl) ?_
        go_simp
        refine (number_any HRsacc.out).mono ?_
        intro e w_saccc hsaccc
        cases hp : rdB R2 with
        | none =>
          obtain ⟨rfl, hk⟩ := reads_no hsaccc hp
          exact ⟨rfl, reads_none (by unfold rdH; rw [HP1.out]; simp [HP2.out, hp]) (HKsacc.out.trans hk)⟩
        | some q =>
          obtain ⟨z3, R3⟩ := q
          obtain ⟨v, rfl, rfl, hr, hk⟩ := reads_yes hsaccc hp
          have HRsaccc := hid hr
          have HKsaccc := hid (HKsacc.out.trans hk)
          have HP3 := hid hp
          have Xsaccc := hid (kp_row hk Xsacc.out HNE.out)
          have Gsaccc := hid (kp_row hk Gsacc.out HGP.out.1)
          have Dsaccc := hid (kp_row hk Dsacc.out HQP.out.1)
          clear hsaccc hr hk hp
          refine ⟨Xsaccc.out, ?_⟩
          try simp only [List.getElem_toArray, List.getElem_cons_zero, List.getElem_cons_succ, Act.put, List.setIfInBounds_toArray, List.set_cons_zero, List.set_cons_succ]
          refine c_take 6 _ _ rfl (by kernel_rfl) (by kernel_rfl) (by kernel_rfl) rfl (fun c a' w' h => ⟨(putC_defers _ _ _).symm.trans h.1, h.2⟩) Xsaccc.out (fun u hu => by
            go_simp; rfl) ?_
          simp only [List.getElem_toArray, List.getElem_cons_zero, List.getElem_cons_succ, Act.put, List.setIfInBounds_toArray, List.set_cons_zero, List.set_cons_succ]
          refine c_only 8 _ rfl (by kernel_rfl) ?_
          rw [if_pos (by rfl)]
          refine wp_store_row 90 (.tmp 2) (.tmp 9) rfl g2 #[.int .i64 z1, .int .i64 z2, .int .i64 z3, .string { data := #[] }] rfl rfl 90 _ Dsaccc.out (by kernel_rfl) rfl (by simp [Value.oneCell']) ?_
          obtain ⟨W5, hW5⟩ : ∃ W5, w_saccc.setRow g2 #[.int .i64 z1, .int .i64 z2, .int .i64 z3, .string { data := #[] }] = W5 := ⟨_, rfl⟩
          have KS : Hid (Keeps (fun k => k = g2) w_saccc W5) := hid (by subst hW5; exact keeps_rowF w_saccc g2 _)
          have D4 : Hid (W5.heap[g2]? = some (.cells #[.int .i64 z1, .int .i64 z2, .int .i64 z3, .string { data := #[] }] 90)) := hid (by subst hW5; exact setRow_heap w_saccc g2 _ _ _ _ Dsaccc.out)
          have X4 : Hid (W5.heap[bx]? = some (.cells #[.pointer (some ⟨p, 0, none⟩)] 63)) := hid ((KS.out.block bx (Array.getElem?_eq_some_iff.1 Xsaccc.out).1 HQP.out.2.2.2.2).trans Xsaccc.out)
          have G4 : Hid (W5.heap[g]? = some (.cells #[.int .i64 0, .int .i64 0, .int .i64 0, .string { data := #[] }] 90)) := hid ((KS.out.block g (Array.getElem?_eq_some_iff.1 Gsaccc.out).1 HQP.out.2.1).trans Gsaccc.out)
          have HR4 : Hid (RD w0 p R3 W5) := hid (HRsaccc.out.keeps KS.out fun k hk => by subst hk; exact ⟨HQP.out.2.2.2.1, HQP.out.1⟩)
          have HK4 : Hid (Keeps (fun k => k = p) w W5) := hid (HKsaccc.out.then KS.out fun k hk h => by have h1 := HQP.out.2.2.1; omega)
          rw [hW5]
          clear hW5
          refine ⟨X4.out, ?_⟩
          refine c_end (by kernel_rfl) ?_
          have b0 := (cell_of_row _ _ 0 _ _ _ X4.out).trans (show (#[Value.pointer (some ⟨p, 0, none⟩)] : Array Value)[0]? = some (.pointer (some ⟨p, 0, none⟩)) from rfl)
          go_wp2_with fail
          refine (rtext_any HR4.out).mono ?_
          intro e w5 h5
          cases hp5 : rdT R3 with
          | none =>
            obtain ⟨rfl, hk5⟩ := reads_no h5 hp5
            exact ⟨rfl, reads_none (by unfold rdH; rw [HP1.out]; simp [HP2.out, HP3.out, hp5]) (HK4.out.trans hk5)⟩
          | some q5 =>
            obtain ⟨s5, R5⟩ := q5
            obtain ⟨v5, rfl, rfl, hr5, hk5⟩ := reads_yes h5 hp5
            have HF : Hid (rdH R = some (⟨z1, z2, z3, s5⟩, R5)) := hid (by unfold rdH; rw [HP1.out]; simp [HP2.out, HP3.out, hp5])
            have HR5 := hid hr5
            have HK5 := hid (HK4.out.trans hk5)
            have G5 := hid (kp_row hk5 G4.out HGP.out.1)
            have D5 := hid (kp_row hk5 D4.out HQP.out.1)
            clear h5 hr5 hk5 hp5 b0
            have c3 : w5.cell? ⟨g2, 3, none⟩ = some (.string { data := #[] }) := by rw [cell_of_row _ _ _ _ _ _ D5.out]; rfl
            have c3f : w5.frozen? ⟨g2, 3, none⟩ = false := frozen_of_row _ _ _ _ _ D5.out
            obtain ⟨W6, hW6⟩ : ∃ W6, w5.setCell ⟨g2, 3, none⟩ (.string s5) = W6 := ⟨_, rfl⟩
            have D6 : Hid (W6.heap[g2]? = some (.cells #[.int .i64 z1, .int .i64 z2, .int .i64 z3, .string s5] 90)) := hid (by subst hW6; exact heap_set D5.out 3 _)
            have G6 : Hid (W6.heap[g]? = some (.cells #[.int .i64 0, .int .i64 0, .int .i64 0, .string { data := #[] }] 90)) := hid (by subst hW6; exact ((Keeps.set w5 g2 3 (.string s5)).block g (Array.getElem?_eq_some_iff.1 G5.out).1 HQP.out.2.1).trans G5.out)
            have HR6 : Hid (RD w0 p R5 W6) := hid (by subst hW6; exact HR5.out.keeps (Keeps.set w5 g2 3 _) fun k hk => by subst hk; exact ⟨HQP.out.2.2.2.1, HQP.out.1⟩)
            have HK6 : Hid (Keeps (fun k => k = p) w W6) := hid (by subst hW6; exact HK5.out.then (Keeps.set w5 g2 3 _) fun k hk h => by have := HQP.out.2.2.1; omega)
            go_wp2_with (first | (refine wpList_load_row rfl 90 (.tmp 2) rfl g2 rfl _ _ _ _ D6.out Tryz.underlying90 rfl (by kernel_rfl) ?_) | (refine wpList_store_row rfl 90 (.tmp 1) (.tmp 13) rfl g #[.int .i64 z1, .int .i64 z2, .int .i64 z3, .string s5] rfl rfl 90 _ G6.out (by kernel_rfl) rfl (by simp [Value.oneCell']) ?_))
            clear c3 c3f hW6
            have G7 := hid (setRow_heap W6 g _ #[.int .i64 z1, .int .i64 z2, .int .i64 z3, .string s5] _ _ G6.out)
            have HR7 : Hid (RD w0 p R5 (W6.setRow g #[.int .i64 z1, .int .i64 z2, .int .i64 z3, .string s5])) := hid (HR6.out.keeps (keeps_rowF W6 g _) fun k hk => by subst hk; exact ⟨HGP.out.2.2, HGP.out.1⟩)
            have HK7 : Hid (Keeps (fun k => k = p) w (W6.setRow g #[.int .i64 z1, .int .i64 z2, .int .i64 z3, .string s5])) := hid (HK6.out.then (keeps_rowF W6 g _) fun k hk h => by have := HGW.out; omega)
            try simp only [Exit.inBlock, Exit.then]
            refine bodyPost_ret (results_cell_row rfl _ _ g 90 _ (0, 0) _ rfl G7.out Tryz.underlying90 rfl (by kernel_rfl)) rfl ?_
            exact reads_some HF.out rfl HR7.out HK7.out
end Go.Proofs.YtnhhaefoilhlhaaGreatDoor.files

/- file.list at texts, fields, handlers: the walks. Conditions as for the reader. -/
set_option linter.unusedSimpArgs false
set_option linter.unusedVariables false
namespace Go.Proofs.YtnhhaefoilhlhaaGreatDoor.files
open Go.RowKit Go.Proofs.YtnhhaefoilhlhaaGreatDoor.lib Go.Proofs.YtnhhaefoilhlhaaGreatDoor.errs Go.Proofs.YtnhhaefoilhlhaaGreatDoor.names Go.Proofs.YtnhhaefoilhlhaaGreatDoor.descs Go.Proofs.YtnhhaefoilhlhaaGreatDoor.ins Go.Proofs.YtnhhaefoilhlhaaGreatDoor.flows Go.Proofs.YtnhhaefoilhlhaaGreatDoor.hdls Go.Proofs.YtnhhaefoilhlhaaGreatDoor.classes Go.Proofs.YtnhhaefoilhlhaaGreatDoor.txts Go.Proofs.YtnhhaefoilhlhaaGreatDoor.nums Go.Proofs.YtnhhaefoilhlhaaGreatDoor.keep

theorem infoT : (Tryz.prog.info? 9).map (fun i => (i.zero, i.size, i.bytes)) = some (some (.string { data := #[] }), 1, 16) := by kernel_rfl
theorem infoF : (Tryz.prog.info? 55).map (fun i => (i.zero, i.size, i.bytes)) = some (some (.agg #[.string { data := #[] }, .string { data := #[] }]), 2, 32) := by kernel_rfl
theorem infoH : (Tryz.prog.info? 90).map (fun i => (i.zero, i.size, i.bytes)) = some (some (.agg #[.int .i64 0, .int .i64 0, .int .i64 0, .string { data := #[] }]), 4, 40) := by kernel_rfl

set_option maxRecDepth 100000 in
set_option maxHeartbeats 2000000 in
theorem listT_any {w0 w : World} {p : Nat} {R : List Int} (h : RD w0 p R w) :
    Calls Tryz.prog 21 #[.pointer (some ⟨p, 0, none⟩), .func (.func 20) #[.pointer (some ⟨p, 0, none⟩)] #[]] w (Reads w0 p w (rdN rdT R) fun l v u => u.ownsRow w.heap.size 9 1 v l.length (l.flatMap (fun x => [Value.string x]))) := by
  have HN := hid (number_any h)
  have HR := hid h
  have hpl := h.lt
  clear h
  go_enter Tryz.func21, Tryz.ntmps21
  go_wp2_with fail
  refine HN.out.mono ?_
  intro e w1 h1
  cases R with
  | nil =>
    obtain ⟨rfl, hk⟩ := reads_no h1 rfl
    exact ⟨rfl, reads_none rfl hk⟩
  | cons z r =>
    obtain ⟨v, rfl, rfl, hr, hk⟩ := reads_yes h1 rfl
    obtain ⟨hz0, hz1⟩ := HR.out.all z (List.mem_cons_self ..)
    obtain ⟨n, rfl⟩ : ∃ n : Nat, z = (n : Int) := ⟨z.toNat, by omega⟩
    have HK1 := hid hk
    have HR1 := hid hr
    have HS : Hid (rdN rdT ((n : Int) :: r) = rdL rdT n r) := hid rfl
    have hnb : n ≤ 255 := by omega
    clear h1 hr hk
    go_wp2_with fail
    go_loopw [5, 8] (fun v i wr => ∃ (k : Nat) (X : List ByteArray) (R' : List Int), k ≤ n ∧ i = .int .i64 k ∧ Hid (wr.ownsRow w.heap.size 9 1 v X.length (X.flatMap (fun x => [Value.string x]))) ∧ Hid (RD w0 p R' wr) ∧ Hid (Keeps (fun k => k = p) w wr) ∧ Hid (rdL rdT n r = (rdL rdT (n - k) R').map (fun s => (X ++ s.1, s.2))) ∧ Hid (X.length = k)) (fun _ i _ => n - (intOf i).toNat)
    case atStart => exact ⟨0, [], r, Nat.zero_le _, rfl, hid (World.ownsRow_nil _ _ _ _), HR1, HK1, hid (by simp), hid rfl⟩
    case round =>
      obtain ⟨k, X, R', hk, rfl, HO, HRD, HKP, HSY, HXL⟩ := hrel
      obtain ⟨W1, hW1⟩ : ∃ W, W = wr := ⟨_, rfl⟩
      subst hW1
      by_cases hlt : k < n
      · have hkl : (k : Int) < (n : Int) := by omega
        have ek : n - k = (n - k - 1) + 1 := by omega
        go_wp2_with fail
        refine (rtext_any HRD.out).mono ?_
        intro e w2 h2
        cases hp : rdT R' with
        | none =>
          obtain ⟨rfl, hk2⟩ := reads_no h2 hp
          have HF : Hid (rdN rdT ((n : Int) :: r) = none) := hid (by rw [HS.out, HSY.out, ek, rdL, hp]; rfl)
          exact ⟨rfl, reads_none HF.out (HKP.out.trans hk2)⟩
        | some q =>
          obtain ⟨x, R2⟩ := q
          obtain ⟨v, rfl, hv, hr2, hk2⟩ := reads_yes h2 hp
          have HSN : Hid (rdL rdT n r = (rdL rdT (n - (k + 1)) R2).map (fun s => ((X ++ [x]) ++ s.1, s.2))) := hid (by
            rw [HSY.out, ek, rdL, hp, show n - k - 1 = n - (k + 1) by omega]
            simp only [Option.bind_some, Option.map_map]
            cases rdL rdT (n - (k + 1)) R2 <;> simp)
          have HXS : Hid (X.length ≤ 255) := hid (by have := HXL.out; omega)
          obtain ⟨wz, hwz, hoz⟩ := out_of (owns_keeps HO.out hk2 (fun j hj e => by have := (HO.out.lt j hj).1; omega) (Nat.le_refl _)) (Nat.le_trans HKP.out.size hk2.size)
          have HOZ := hid hoz
          have HWZ := hid hwz
          have HR2 := hid hr2
          have HK2 := hid (HKP.out.trans hk2)
          have hxl := HXS.out
          obtain rfl := hv
          obtain ⟨x_, hx_⟩ : ∃ y, y = x := ⟨_, rfl⟩
          subst hx_
          clear h2 hp hr2 hk2 hoz hwz
          go_wp2_with (at_builtin; refine wpList_append_lit_b wz _ _ _ rfl _ _ 22 rfl 9 (.string { data := #[] }) 1 16 1 Tryz.underlying22 infoT rfl (by decide) _ _ _ HOZ.out rfl rfl ?_ rfl ?_ ?_ ?_ ?_)
          all_goals first | (intro v4 w4 ho4 hg4 _) | omega | (simp [Value.oneCell']; done) | skip
          have HO4 : Hid (w4.ownsRow w.heap.size 9 1 v4 (X ++ [x_]).length ((X ++ [x_]).flatMap (fun x => [Value.string x]))) := hid (by
            have := ho4.own
            rw [HWZ.out] at this
            rw [List.length_append, List.flatMap_append]
            simpa [classes.Fd.cells, Hd.cells] using this)
          have HKG : Hid (Keeps (fun j => some j = (u5).ownBlock) w2 w4) := hid (Keeps.grown hg4)
          have HBK : Hid (∀ j, some j = (u5).ownBlock → w.heap.size ≤ j) := hid (fun j hj => (HO.out.lt j hj.symm).1)
          have HR4 : Hid (RD w0 p R2 w4) := hid (HR2.out.keeps HKG.out fun j hj => by have h1 := HBK.out j hj; have := HR.out.base; have := HR.out.below.size; omega)
          have HK4 : Hid (Keeps (fun k => k = p) w w4) := hid (HK2.out.then HKG.out fun j hj h1 => by have := HBK.out j h1; omega)
          clear ho4 hg4
          go_wp2
          go_roundw
          case rel => exact ⟨k + 1, X ++ [x_], R2, by omega, by go_num, HO4, HR4, HK4, HSN, hid (by simp [HXL.out])⟩
          case measure => simp [intOf]; omega
      · have e : n - k = 0 := by omega
        have HF : Hid (rdN rdT ((n : Int) :: r) = some (X, R')) := hid (by rw [HS.out, HSY.out, e, rdL]; simp)
        have hge : ¬ (k : Int) < (n : Int) := by omega
        go_wp2
        go_ret
        exact reads_some HF.out HO.out HRD.out HKP.out

set_option maxRecDepth 100000 in
set_option maxHeartbeats 2000000 in
theorem listF_any {w0 w : World} {p : Nat} {R : List Int} {bx : Nat} (h : RD w0 p R w) (hb : w.heap[bx]? = some (.cells #[.pointer (some ⟨p, 0, none⟩)] 63)) (hne : bx ≠ p) :
    Calls Tryz.prog 23 #[.pointer (some ⟨p, 0, none⟩), .func (.func 24) #[] #[.pointer (some ⟨bx, 0, none⟩)]] w (Reads w0 p w (rdN rdF R) fun l v u => u.ownsRow w.heap.size 55 2 v l.length (l.flatMap classes.Fd.cells)) := by
  have HN := hid (number_any h)
  have HR := hid h
  have hpl := h.lt
  have HBX := hid hb
  have HNE := hid hne
  clear hb hne
  clear h
  go_enter Tryz.func23, Tryz.ntmps23
  go_wp2_with fail
  refine HN.out.mono ?_
  intro e w1 h1
  cases R with
  | nil =>
    obtain ⟨rfl, hk⟩ := reads_no h1 rfl
    exact ⟨rfl, reads_none rfl hk⟩
  | cons z r =>
    obtain ⟨v, rfl, rfl, hr, hk⟩ := reads_yes h1 rfl
    obtain ⟨hz0, hz1⟩ := HR.out.all z (List.mem_cons_self ..)
    obtain ⟨n, rfl⟩ : ∃ n : Nat, z = (n : Int) := ⟨z.toNat, by omega⟩
    have HK1 := hid hk
    have HR1 := hid hr
    have HS : Hid (rdN rdF ((n : Int) :: r) = rdL rdF n r) := hid rfl
    have hnb : n ≤ 255 := by omega
    clear h1 hr hk
    go_wp2_with fail
    go_loopw [5, 8] (fun v i wr => ∃ (k : Nat) (X : List classes.Fd) (R' : List Int), k ≤ n ∧ i = .int .i64 k ∧ Hid (wr.ownsRow w.heap.size 55 2 v X.length (X.flatMap classes.Fd.cells)) ∧ Hid (RD w0 p R' wr) ∧ Hid (Keeps (fun k => k = p) w wr) ∧ Hid (rdL rdF n r = (rdL rdF (n - k) R').map (fun s => (X ++ s.1, s.2))) ∧ Hid (X.length = k)) (fun _ i _ => n - (intOf i).toNat)
    case atStart => exact ⟨0, [], r, Nat.zero_le _, rfl, hid (World.ownsRow_nil _ _ _ _), HR1, HK1, hid (by simp), hid rfl⟩
    case round =>
      obtain ⟨k, X, R', hk, rfl, HO, HRD, HKP, HSY, HXL⟩ := hrel
      obtain ⟨W1, hW1⟩ : ∃ W, W = wr := ⟨_, rfl⟩
      subst hW1
      by_cases hlt : k < n
      · have hkl : (k : Int) < (n : Int) := by omega
        have ek : n - k = (n - k - 1) + 1 := by omega
        have HBR := hid (kp_row HKP.out HBX.out HNE.out)
        go_wp2_with fail
        refine (fclos_any HRD.out HBR.out HNE.out).mono ?_
        intro e w2 h2
        cases hp : rdF R' with
        | none =>
          obtain ⟨rfl, hk2⟩ := reads_no h2 hp
          have HF : Hid (rdN rdF ((n : Int) :: r) = none) := hid (by rw [HS.out, HSY.out, ek, rdL, hp]; rfl)
          exact ⟨rfl, reads_none HF.out (HKP.out.trans hk2)⟩
        | some q =>
          obtain ⟨x, R2⟩ := q
          obtain ⟨v, rfl, hv, hr2, hk2⟩ := reads_yes h2 hp
          have HSN : Hid (rdL rdF n r = (rdL rdF (n - (k + 1)) R2).map (fun s => ((X ++ [x]) ++ s.1, s.2))) := hid (by
            rw [HSY.out, ek, rdL, hp, show n - k - 1 = n - (k + 1) by omega]
            simp only [Option.bind_some, Option.map_map]
            cases rdL rdF (n - (k + 1)) R2 <;> simp)
          have HXS : Hid (X.length ≤ 255) := hid (by have := HXL.out; omega)
          obtain ⟨wz, hwz, hoz⟩ := out_of (owns_keeps HO.out hk2 (fun j hj e => by have := (HO.out.lt j hj).1; omega) (Nat.le_refl _)) (Nat.le_trans HKP.out.size hk2.size)
          have HOZ := hid hoz
          have HWZ := hid hwz
          have HR2 := hid hr2
          have HK2 := hid (HKP.out.trans hk2)
          have hxl := HXS.out
          obtain ⟨n_, t_⟩ := x
          obtain rfl := hv
          clear h2 hp hr2 hk2 hoz hwz
          go_wp2_with (at_builtin; refine wpList_append_lit_b wz _ _ _ rfl _ _ 23 rfl 55 (.agg #[.string { data := #[] }, .string { data := #[] }]) 2 32 1 Tryz.underlying23 infoF rfl (by decide) _ _ _ HOZ.out rfl rfl ?_ rfl ?_ ?_ ?_ ?_)
          all_goals first | (intro v4 w4 ho4 hg4 _) | omega | (simp [Value.oneCell']; done) | skip
          have HO4 : Hid (w4.ownsRow w.heap.size 55 2 v4 (X ++ [(⟨n_, t_⟩ : classes.Fd)]).length ((X ++ [(⟨n_, t_⟩ : classes.Fd)]).flatMap classes.Fd.cells)) := hid (by
            have := ho4.own
            rw [HWZ.out] at this
            rw [List.length_append, List.flatMap_append]
            simpa [classes.Fd.cells, Hd.cells] using this)
          have HKG : Hid (Keeps (fun j => some j = (u5).ownBlock) w2 w4) := hid (Keeps.grown hg4)
          have HBK : Hid (∀ j, some j = (u5).ownBlock → w.heap.size ≤ j) := hid (fun j hj => (HO.out.lt j hj.symm).1)
          have HR4 : Hid (RD w0 p R2 w4) := hid (HR2.out.keeps HKG.out fun j hj => by have h1 := HBK.out j hj; have := HR.out.base; have := HR.out.below.size; omega)
          have HK4 : Hid (Keeps (fun k => k = p) w w4) := hid (HK2.out.then HKG.out fun j hj h1 => by have := HBK.out j h1; omega)
          clear ho4 hg4
          go_wp2
          go_roundw
          case rel => exact ⟨k + 1, X ++ [(⟨n_, t_⟩ : classes.Fd)], R2, by omega, by go_num, HO4, HR4, HK4, HSN, hid (by simp [HXL.out])⟩
          case measure => simp [intOf]; omega
      · have e : n - k = 0 := by omega
        have HF : Hid (rdN rdF ((n : Int) :: r) = some (X, R')) := hid (by rw [HS.out, HSY.out, e, rdL]; simp)
        have hge : ¬ (k : Int) < (n : Int) := by omega
        go_wp2
        go_ret
        exact reads_some HF.out HO.out HRD.out HKP.out

set_option maxRecDepth 100000 in
set_option maxHeartbeats 2000000 in
theorem listH_any {w0 w : World} {p : Nat} {R : List Int} {bx : Nat} (h : RD w0 p R w) (hb : w.heap[bx]? = some (.cells #[.pointer (some ⟨p, 0, none⟩)] 63)) (hne : bx ≠ p) :
    Calls Tryz.prog 41 #[.pointer (some ⟨p, 0, none⟩), .func (.func 42) #[] #[.pointer (some ⟨bx, 0, none⟩)]] w (Reads w0 p w (rdN rdH R) fun l v u => u.ownsRow w.heap.size 90 4 v l.length (l.flatMap Hd.cells)) := by
  have HN := hid (number_any h)
  have HR := hid h
  have hpl := h.lt
  have HBX := hid hb
  have HNE := hid hne
  clear hb hne
  clear h
  go_enter Tryz.func41, Tryz.ntmps41
  go_wp2_with fail
  refine HN.out.mono ?_
  intro e w1 h1
  cases R with
  | nil =>
    obtain ⟨rfl, hk⟩ := reads_no h1 rfl
    exact ⟨rfl, reads_none rfl hk⟩
  | cons z r =>
    obtain ⟨v, rfl, rfl, hr, hk⟩ := reads_yes h1 rfl
    obtain ⟨hz0, hz1⟩ := HR.out.all z (List.mem_cons_self ..)
    obtain ⟨n, rfl⟩ : ∃ n : Nat, z = (n : Int) := ⟨z.toNat, by omega⟩
    have HK1 := hid hk
    have HR1 := hid hr
    have HS : Hid (rdN rdH ((n : Int) :: r) = rdL rdH n r) := hid rfl
    have hnb : n ≤ 255 := by omega
    clear h1 hr hk
    go_wp2_with fail
    go_loopw [5, 8] (fun v i wr => ∃ (k : Nat) (X : List Hd) (R' : List Int), k ≤ n ∧ i = .int .i64 k ∧ Hid (wr.ownsRow w.heap.size 90 4 v X.length (X.flatMap Hd.cells)) ∧ Hid (RD w0 p R' wr) ∧ Hid (Keeps (fun k => k = p) w wr) ∧ Hid (rdL rdH n r = (rdL rdH (n - k) R').map (fun s => (X ++ s.1, s.2))) ∧ Hid (X.length = k)) (fun _ i _ => n - (intOf i).toNat)
    case atStart => exact ⟨0, [], r, Nat.zero_le _, rfl, hid (World.ownsRow_nil _ _ _ _), HR1, HK1, hid (by simp), hid rfl⟩
    case round =>
      obtain ⟨k, X, R', hk, rfl, HO, HRD, HKP, HSY, HXL⟩ := hrel
      obtain ⟨W1, hW1⟩ : ∃ W, W = wr := ⟨_, rfl⟩
      subst hW1
      by_cases hlt : k < n
      · have hkl : (k : Int) < (n : Int) := by omega
        have ek : n - k = (n - k - 1) + 1 := by omega
        have HBR := hid (kp_row HKP.out HBX.out HNE.out)
        go_wp2_with fail
        refine (hclos_any HRD.out HBR.out HNE.out).mono ?_
        intro e w2 h2
        cases hp : rdH R' with
        | none =>
          obtain ⟨rfl, hk2⟩ := reads_no h2 hp
          have HF : Hid (rdN rdH ((n : Int) :: r) = none) := hid (by rw [HS.out, HSY.out, ek, rdL, hp]; rfl)
          exact ⟨rfl, reads_none HF.out (HKP.out.trans hk2)⟩
        | some q =>
          obtain ⟨x, R2⟩ := q
          obtain ⟨v, rfl, hv, hr2, hk2⟩ := reads_yes h2 hp
          have HSN : Hid (rdL rdH n r = (rdL rdH (n - (k + 1)) R2).map (fun s => ((X ++ [x]) ++ s.1, s.2))) := hid (by
            rw [HSY.out, ek, rdL, hp, show n - k - 1 = n - (k + 1) by omega]
            simp only [Option.bind_some, Option.map_map]
            cases rdL rdH (n - (k + 1)) R2 <;> simp)
          have HXS : Hid (X.length ≤ 255) := hid (by have := HXL.out; omega)
          obtain ⟨wz, hwz, hoz⟩ := out_of (owns_keeps HO.out hk2 (fun j hj e => by have := (HO.out.lt j hj).1; omega) (Nat.le_refl _)) (Nat.le_trans HKP.out.size hk2.size)
          have HOZ := hid hoz
          have HWZ := hid hwz
          have HR2 := hid hr2
          have HK2 := hid (HKP.out.trans hk2)
          have hxl := HXS.out
          obtain ⟨f_, g_, a_, c_⟩ := x
          obtain rfl := hv
          clear h2 hp hr2 hk2 hoz hwz
          go_wp2_with (at_builtin; refine wpList_append_lit_b wz _ _ _ rfl _ _ 57 rfl 90 (.agg #[.int .i64 0, .int .i64 0, .int .i64 0, .string { data := #[] }]) 4 40 1 Tryz.underlying57 infoH rfl (by decide) _ _ _ HOZ.out rfl rfl ?_ rfl ?_ ?_ ?_ ?_)
          all_goals first | (intro v4 w4 ho4 hg4 _) | omega | (simp [Value.oneCell']; done) | skip
          have HO4 : Hid (w4.ownsRow w.heap.size 90 4 v4 (X ++ [(⟨f_, g_, a_, c_⟩ : Hd)]).length ((X ++ [(⟨f_, g_, a_, c_⟩ : Hd)]).flatMap Hd.cells)) := hid (by
            have := ho4.own
            rw [HWZ.out] at this
            rw [List.length_append, List.flatMap_append]
            simpa [classes.Fd.cells, Hd.cells] using this)
          have HKG : Hid (Keeps (fun j => some j = (u5).ownBlock) w2 w4) := hid (Keeps.grown hg4)
          have HBK : Hid (∀ j, some j = (u5).ownBlock → w.heap.size ≤ j) := hid (fun j hj => (HO.out.lt j hj.symm).1)
          have HR4 : Hid (RD w0 p R2 w4) := hid (HR2.out.keeps HKG.out fun j hj => by have h1 := HBK.out j hj; have := HR.out.base; have := HR.out.below.size; omega)
          have HK4 : Hid (Keeps (fun k => k = p) w w4) := hid (HK2.out.then HKG.out fun j hj h1 => by have := HBK.out j h1; omega)
          clear ho4 hg4
          go_wp2
          go_roundw
          case rel => exact ⟨k + 1, X ++ [(⟨f_, g_, a_, c_⟩ : Hd)], R2, by omega, by go_num, HO4, HR4, HK4, HSN, hid (by simp [HXL.out])⟩
          case measure => simp [intOf]; omega
      · have e : n - k = 0 := by omega
        have HF : Hid (rdN rdH ((n : Int) :: r) = some (X, R')) := hid (by rw [HS.out, HSY.out, e, rdL]; simp)
        have hge : ¬ (k : Int) < (n : Int) := by omega
        go_wp2
        go_ret
        exact reads_some HF.out HO.out HRD.out HKP.out
end Go.Proofs.YtnhhaefoilhlhaaGreatDoor.files
