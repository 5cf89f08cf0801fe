/- A right class's parts are right and not long; bytes.Buffer.Bytes of a writer. No condition. -/
import Derived.Test.YtnhhaefoilhlhaaGreatDoorGrowP
import Derived.Test.YtnhhaefoilhlhaaGreatDoorShelfN
import Derived.Lib.BufferAt
import Derived.Test.YtnhhaefoilhlhaaGreatDoorCls1
import Derived.Test.YtnhhaefoilhlhaaGreatDoorTxt4
set_option linter.unusedSimpArgs false
set_option linter.unusedVariables false
namespace Go.Proofs.YtnhhaefoilhlhaaGreatDoor.files
open Go.RowKit Go.Proofs.YtnhhaefoilhlhaaGreatDoor.lib Go.Proofs.YtnhhaefoilhlhaaGreatDoor.errs Go.Proofs.YtnhhaefoilhlhaaGreatDoor.names Go.Proofs.YtnhhaefoilhlhaaGreatDoor.descs Go.Proofs.YtnhhaefoilhlhaaGreatDoor.ins Go.Proofs.YtnhhaefoilhlhaaGreatDoor.flows Go.Proofs.YtnhhaefoilhlhaaGreatDoor.hdls Go.Proofs.YtnhhaefoilhlhaaGreatDoor.classes Go.Proofs.YtnhhaefoilhlhaaGreatDoor.txts Go.Proofs.YtnhhaefoilhlhaaGreatDoor.nums

/-- a text's bytes -/
def tb (s : ByteArray) : List Int := (s.size : Int) % 256 :: s.data.toList.map fun b => (b.toNat : Int)
/-- flags -/
def bit : List Bool → Int
  | [] => 0
  | b :: r => (if b = true then 1 else 0) + 2 * bit r
/-- a handler's bytes -/
def hb (h : Hd) : List Int := [h.fr % 256, h.til % 256, h.at_ % 256] ++ tb h.cls
/-- a field's bytes -/
def fb (x : classes.Fd) : List Int := tb x.nm ++ tb x.ty
/-- a method's bytes -/
def mb (m : MV) : List Int := tb m.nm ++ tb m.ty ++ [bit [m.st, m.ab, m.pr]] ++ [m.lo % 256] ++ encTo m.code m.code.length ++ [(m.hs.length : Int) % 256] ++ m.hs.flatMap hb
def magic : List Int := [67, 65, 70, 69, 1]
/-- a class's bytes -/
def cb (c : CV) : List Int := magic ++ tb c.nm ++ tb c.sup ++ [(c.faces.length : Int) % 256] ++ c.faces.flatMap tb ++ [bit [c.face]] ++ [(c.fields.length : Int) % 256] ++ c.fields.flatMap fb ++ [(c.mets.length : Int) % 256] ++ c.mets.flatMap mb

theorem tb_len (s : ByteArray) : (tb s).length = s.size + 1 := by unfold tb; rw [List.length_cons, List.length_map, size_len]
theorem flat_take {T : Type} (f : T → List Int) (l : List T) {k : Nat} (hk : k < l.length) : (l.take (k + 1)).flatMap f = (l.take k).flatMap f ++ f l[k] := by
  rw [List.take_succ_eq_append_getElem hk, List.flatMap_append]; simp
theorem flat_le {T : Type} (f : T → List Int) (M : Nat) : ∀ (l : List T), (∀ x ∈ l, (f x).length ≤ M) → (l.flatMap f).length ≤ l.length * M
  | [], _ => by simp
  | x :: l, h => by
    have h1 := flat_le f M l fun y hy => h y (List.mem_cons_of_mem _ hy)
    have h2 := h x (List.mem_cons_self ..)
    rw [List.flatMap_cons, List.length_append, List.length_cons, Nat.succ_mul]
    omega
theorem cells_map (l : List UInt8) : Lib.byteCells l = (l.map fun b => (b.toNat : Int)).map (.int .u8) := by
  unfold Lib.byteCells
  rw [List.map_map]; rfl

/-- every instruction of a right method's code is right, and it is not long -/
structure GoodM (m : MV) : Prop where
  code : codeErr m.code = 0
  nums : ∀ x ∈ m.code, Small x ∧ InR x.a ∧ InR x.b
  hlen : m.hs.length ≤ 8
  small : SmallM m
theorem hb_len {h : Hd} (hs : h.cls.size ≤ 1048576) : (hb h).length ≤ 1048580 := by
  unfold hb
  rw [List.length_append, tb_len]
  simp; omega
theorem fb_len {x : classes.Fd} (h : x.nm.size ≤ 1048576 ∧ x.ty.size ≤ 1048576) : (fb x).length ≤ 2097154 := by
  unfold fb
  rw [List.length_append, tb_len, tb_len]
  omega
/-- how long a method's code is, as bytes -/
theorem enc_len {l : List I} (h : codeErr l = 0) (hn : ∀ x ∈ l, Small x ∧ InR x.a ∧ InR x.b) : (encTo l l.length).length ≤ 2000000000 := by
  have h40 : l.length ≤ 40 := by
    unfold codeErr at h
    split at h
    · cases h
    · omega
  have hb : badIns l = 0 := by
    unfold codeErr at h
    split at h
    · cases h
    · exact h
  have hw : Written l l.length := fun j hj _ => by
    have : ∀ (l : List I), badIns l = 0 → ∀ x ∈ l, insFault x = 0 := fun l => by
      induction l with
      | nil => intro _ x hx; cases hx
      | cons y l ih =>
        intro h x hx
        unfold badIns at h
        by_cases hy : insFault y = 0
        · rw [if_pos hy] at h
          rcases List.mem_cons.1 hx with e | e
          · rw [e]; exact hy
          · exact ih h x e
        · rw [if_neg hy] at h; exact absurd h hy
    exact this l hb _ (List.getElem_mem hj)
  have := enc_len_to hn 40000001 (Nat.le_refl _) l.length hw
  have h2 := Nat.mul_le_mul_right 40000001 h40
  omega
theorem mb_len {m : MV} (h : GoodM m) : (mb m).length ≤ 2020000000 := by
  have h1 := h.small.nm
  have h2 := h.small.ty
  have h3 := enc_len h.code h.nums
  have h4 := flat_le hb 1048580 m.hs fun x hx => hb_len (h.small.hs x hx)
  have h5 := Nat.mul_le_mul_right 1048580 h.hlen
  unfold mb
  simp only [List.length_append, tb_len, List.length_singleton]
  omega
end Go.Proofs.YtnhhaefoilhlhaaGreatDoor.files

set_option linter.unusedSimpArgs false
set_option linter.unusedVariables false
namespace Go.Proofs.YtnhhaefoilhlhaaGreatDoor.files
open Go.RowKit Go.Proofs.YtnhhaefoilhlhaaGreatDoor.lib Go.Proofs.YtnhhaefoilhlhaaGreatDoor.errs Go.Proofs.YtnhhaefoilhlhaaGreatDoor.names Go.Proofs.YtnhhaefoilhlhaaGreatDoor.descs Go.Proofs.YtnhhaefoilhlhaaGreatDoor.ins Go.Proofs.YtnhhaefoilhlhaaGreatDoor.flows Go.Proofs.YtnhhaefoilhlhaaGreatDoor.hdls Go.Proofs.YtnhhaefoilhlhaaGreatDoor.classes Go.Proofs.YtnhhaefoilhlhaaGreatDoor.txts Go.Proofs.YtnhhaefoilhlhaaGreatDoor.nums

/-- block p is a writer that holds these bytes -/
def WB (B p : Nat) (E : List Int) (w : World) : Prop := Go.LibA.IsBuffer 48 (fun _ => none) 5 B p 0 (E.map (.int .u8)) w
theorem WB.base {B p : Nat} {E : List Int} {w : World} (h : WB B p E w) : B ≤ w.heap.size := by
  have := h.lt
  have h2 : B ≤ p := h.1
  omega
theorem WB.pl {B p : Nat} {E : List Int} {w : World} (h : WB B p E w) : B ≤ p ∧ p < w.heap.size := ⟨h.1, h.lt⟩
theorem ones (E : List Int) : ∀ v ∈ E.map (Value.int .u8), v.oneCell' = true := by
  intro v hv
  obtain ⟨z, _, rfl⟩ := List.mem_map.1 hv
  rfl
/-- from w to w' the bytes are written -/
structure Wrote (B p : Nat) (E : List Int) (w w' : World) : Prop where
  buf : WB B p E w'
  below : Below B w w'
  kept : Lib.OthersKept 5 (some p) w w'
theorem Wrote.trans {B p : Nat} {E F : List Int} {w1 w2 w3 : World} (h : Wrote B p E w1 w2) (k : Wrote B p F w2 w3) : Wrote B p F w1 w3 := ⟨k.buf, h.below.trans k.below, h.kept.trans k.kept⟩

theorem wbyte_any {B p : Nat} {E : List Int} (c : Int) {w : World} (h : WB B p E w) (hn : E.length + 1 ≤ 140737488355328) :
    Calls Tryz.prog 14 #[.pointer (some ⟨p, 0, none⟩), .int .u8 c] w fun e w' => e = .returned .nilIface ∧ Wrote B p (E ++ [c]) w w' := by
  refine (Tryz.Buffer_WriteByte_at _ _ B p 0 _ c w h h.base (ones E) (by simpa using hn)).mono ?_
  rintro e w' ⟨he, hb, hl, hk⟩
  exact ⟨he, by unfold WB; rw [List.map_append]; exact hb, hl, hk⟩
theorem wstring_any {B p : Nat} {E : List Int} (s : ByteArray) {w : World} (h : WB B p E w) (hn : E.length + s.size ≤ 140737488355328) :
    Calls Tryz.prog 12 #[.pointer (some ⟨p, 0, none⟩), .string s] w fun e w' => e = .returned (.tuple #[.int .i64 s.size, .nilIface]) ∧ Wrote B p (E ++ s.data.toList.map fun b => (b.toNat : Int)) w w' := by
  refine (Tryz.Buffer_WriteString_at _ _ B p 0 _ s w h h.base (ones E) (by simpa using hn)).mono ?_
  rintro e w' ⟨he, hb, hl, hk⟩
  exact ⟨he, by unfold WB; rw [List.map_append, ← cells_map]; exact hb, hl, hk⟩
theorem write_any {B p : Nat} {E F : List Int} (a : Option Addr) (c : Nat) {w : World} (h : WB B p E w) (hs : Sl w (.slice a F.length c) F.length 1 (F.map (.int .u8))) (hF : F ≠ []) (hab : ∀ b, a = some b → b.block ≠ p) (hn : E.length + F.length ≤ 140737488355328) :
    Calls Tryz.prog 39 #[.pointer (some ⟨p, 0, none⟩), .slice a F.length c] w fun e w' => e = .returned (.tuple #[.int .i64 F.length, .nilIface]) ∧ Wrote B p (E ++ F) w w' := by
  obtain ⟨b, off, rfl, _⟩ := hs.ints (k := 0) (List.length_pos_iff.2 hF)
  obtain ⟨_, a', c', he, _, hx⟩ := hs
  simp only [Value.slice.injEq] at he
  obtain ⟨rfl, _, _⟩ := he
  rcases hx with hx | ⟨b', off', hb', hx⟩
  · exact absurd (List.map_eq_nil_iff.1 hx) hF
  cases hb'
  refine (Tryz.Buffer_Write_at _ _ B p 0 _ (F.map (.int .u8)) ⟨b, off, none⟩ F.length c w h h.base (ones E) (by simp) (hab _ rfl) (fun j v hj => by rw [Addr.add_lit]; exact hx j v hj) (ones F) (by simpa using hn)).mono ?_
  rintro e w' ⟨he, hb, hl, hk⟩
  exact ⟨he, by unfold WB; rw [List.map_append]; exact hb, hl, hk⟩

set_option maxRecDepth 100000 in
set_option maxHeartbeats 1000000 in
theorem wtext_any {B p : Nat} {E : List Int} (s : ByteArray) {w : World} (h : WB B p E w) (hn : E.length + s.size + 1 ≤ 140737488355328) :
    Calls Tryz.prog 13 #[.pointer (some ⟨p, 0, none⟩), .string s] w fun e w' => e = .returned (.tuple #[]) ∧ Wrote B p (E ++ tb s) w w' := by
  have H := hid h
  clear h
  go_enter Tryz.func13, Tryz.ntmps13
  go_wp2_with fail
  refine (wbyte_any _ H.out (by omega)).mono ?_
  rintro e w1 ⟨rfl, h1⟩
  have H1 := hid h1
  clear h1
  go_wp2_with fail
  refine (wstring_any s H1.out.buf (by simp; omega)).mono ?_
  rintro e w2 ⟨rfl, h2⟩
  have H2 : Hid (Wrote B p (E ++ tb s) w w2) := hid (by have := H1.out.trans h2; rwa [List.append_assoc] at this)
  clear h2
  go_wp2
  try simp only [Exit.inBlock, Exit.then]
  refine bodyPost_end (results_none rfl _ _ _) rfl ?_
  exact ⟨rfl, H2.out⟩

theorem bit_yes (l : List Bool) (h : l.length ≤ 3) {k : Nat} (hk : k < l.length) (hb : l[k] = true) : bits BinOp.or IntKind.u8 (bit (l.take k)) (2 ^ k % 256) = bit (l.take (k + 1)) := by
  match l, h with
  | [a], _ =>
    obtain rfl : k = 0 := by simpa using hk
    cases a <;> first | (exfalso; simp at hb; done) | decide
  | [a, b], _ =>
    have : k = 0 ∨ k = 1 := by simp at hk; omega
    rcases this with rfl | rfl <;> cases a <;> cases b <;> first | (exfalso; simp at hb; done) | decide
  | [a, b, c], _ =>
    have : k = 0 ∨ k = 1 ∨ k = 2 := by simp at hk; omega
    rcases this with rfl | rfl | rfl <;> cases a <;> cases b <;> cases c <;> first | (exfalso; simp at hb; done) | decide
theorem bit_no (l : List Bool) (h : l.length ≤ 3) {k : Nat} (hk : k < l.length) (hb : l[k] = false) : bit (l.take k) = bit (l.take (k + 1)) := by
  match l, h with
  | [a], _ =>
    obtain rfl : k = 0 := by simpa using hk
    cases a <;> first | (exfalso; simp at hb; done) | decide
  | [a, b], _ =>
    have : k = 0 ∨ k = 1 := by simp at hk; omega
    rcases this with rfl | rfl <;> cases a <;> cases b <;> first | (exfalso; simp at hb; done) | decide
  | [a, b, c], _ =>
    have : k = 0 ∨ k = 1 ∨ k = 2 := by simp at hk; omega
    rcases this with rfl | rfl | rfl <;> cases a <;> cases b <;> cases c <;> first | (exfalso; simp at hb; done) | decide
theorem bool_at {w : World} {a : Option Addr} {n c : Nat} {l : List Bool} (h : Sl w (.slice a n c) l.length 1 (l.map .bool)) {k : Nat} (hk : k < l.length) :
    ∃ b off, a = some ⟨b, off, none⟩ ∧ w.cell? ⟨b, off + k, none⟩ = some (.bool l[k]) := by
  obtain ⟨_, a', c', he, _, h⟩ := h
  simp only [Value.slice.injEq] at he
  obtain ⟨rfl, _, _⟩ := he
  rcases h with h | ⟨b, off, rfl, h⟩
  · have : l = [] := by simpa using h
    subst this; simp at hk
  · exact ⟨b, off, rfl, h k _ (by rw [List.getElem?_map, List.getElem?_eq_getElem hk]; rfl)⟩
set_option maxRecDepth 100000 in
set_option maxHeartbeats 1000000 in
theorem flags_any {B p : Nat} {E : List Int} (a : Option Addr) (c : Nat) (l : List Bool) {w : World} (h : WB B p E w) (hl : Sl w (.slice a l.length c) l.length 1 (l.map .bool)) (h3 : l.length ≤ 3) (hn : E.length + 1 ≤ 140737488355328) :
    Calls Tryz.prog 15 #[.pointer (some ⟨p, 0, none⟩), .slice a l.length c] w fun e w' => e = .returned (.tuple #[]) ∧ Wrote B p (E ++ [bit l]) w w' := by
  have H := hid h
  have HL := hid hl
  clear h hl
  go_enter Tryz.func15, Tryz.ntmps15
  go_wp2_with fail
  go_loopw [4, 9] (fun b i wr => ∃ k : Nat, k ≤ l.length ∧ i = .int .i64 k ∧ b = .int .u8 (bit (l.take k)) ∧ w = wr) (fun _ i _ => l.length - (intOf i).toNat)
  case atStart => exact ⟨0, Nat.zero_le _, rfl, rfl, rfl⟩
  case round =>
    obtain ⟨k, hk, rfl, rfl, rfl⟩ := hrel
    by_cases hlt : k < l.length
    · have hi : (0 : Int) ≤ (k : Int) := by omega
      have hkl : (k : Int) < (l.length : Int) := by omega
      obtain ⟨bb, off, hab, hc⟩ := bool_at HL.out hlt
      subst hab
      by_cases hb : l[k] = true
      · rw [hb] at hc
        go_wp2
        have e1 := bit_yes l h3 hlt hb
        refine ⟨⟨k + 1, by omega, by go_num, by rw [e1], trivial⟩, by simp [intOf]; omega⟩
      · have hb' : l[k] = false := by simpa using hb
        rw [hb'] at hc
        go_wp2
        have e1 := bit_no l h3 hlt hb'
        refine ⟨⟨k + 1, by omega, by go_num, by rw [e1], trivial⟩, by simp [intOf]; omega⟩
    · have e : k = l.length := by omega
      subst e
      rw [List.take_length]
      go_wp2_with fail
      refine (wbyte_any _ H.out hn).mono ?_
      rintro e w1 ⟨rfl, h1⟩
      have H1 := hid h1
      clear h1
      go_wp2
      try simp only [Exit.inBlock, Exit.then]
      refine bodyPost_end (results_none rfl _ _ _) rfl ?_
      exact ⟨rfl, H1.out⟩
end Go.Proofs.YtnhhaefoilhlhaaGreatDoor.files

set_option linter.unusedSimpArgs false
set_option linter.unusedVariables false
namespace Go.Proofs.YtnhhaefoilhlhaaGreatDoor.files
open Go.RowKit Go.Proofs.YtnhhaefoilhlhaaGreatDoor.lib Go.Proofs.YtnhhaefoilhlhaaGreatDoor.errs Go.Proofs.YtnhhaefoilhlhaaGreatDoor.names Go.Proofs.YtnhhaefoilhlhaaGreatDoor.descs Go.Proofs.YtnhhaefoilhlhaaGreatDoor.ins Go.Proofs.YtnhhaefoilhlhaaGreatDoor.flows Go.Proofs.YtnhhaefoilhlhaaGreatDoor.hdls Go.Proofs.YtnhhaefoilhlhaaGreatDoor.classes Go.Proofs.YtnhhaefoilhlhaaGreatDoor.txts Go.Proofs.YtnhhaefoilhlhaaGreatDoor.nums Go.Proofs.YtnhhaefoilhlhaaGreatDoor.grow

theorem kept_of_below {e : TypeId} {b : Option Nat} {w w' : World} (h : Below w.heap.size w w') : Lib.OthersKept e b w w' := fun k o hk _ _ => by
  have hlt : k < w.heap.size := (Array.getElem?_eq_some_iff.1 hk).1
  exact (h.block k hlt).trans hk
theorem WB.later {B p : Nat} {E : List Int} {w w' : World} (h : WB B p E w) (hb : Below w.heap.size w w') : WB B p E w' := Go.LibA.IsBuffer.carry h fun k hk => hb.block k hk
/-- behind some writes: the writer, the frame, and a block of the call's own that is no row of bytes -/
structure Stage (B p q : Nat) (row : Obj) (w u : World) (F : List Int) : Prop where
  buf : WB B p F u
  below : Below B w u
  kept : Lib.OthersKept 5 (some p) w u
  row : u.heap[q]? = some row
theorem Stage.wrote {B p q : Nat} {row : Obj} {w u u' : World} {F G : List Int} (h : Stage B p q row w u F) (k : Wrote B p G u u') (hq : q ≠ p) (hr : ∀ c fz, row ≠ .cells c 5 fz) : Stage B p q row w u' G :=
  ⟨k.buf, h.below.trans k.below, h.kept.trans k.kept, k.kept q row h.row (fun e => hq (Option.some.inj e)) hr⟩
theorem Stage.later {B p q : Nat} {row : Obj} {w u u' : World} {F : List Int} (h : Stage B p q row w u F) (k : Below u.heap.size u u') : Stage B p q row w u' F :=
  ⟨h.buf.later k, h.below.trans (k.mono h.buf.base), h.kept.trans (kept_of_below k), (k.block q (Array.getElem?_eq_some_iff.1 h.row).1).trans h.row⟩
theorem Stage.all {B p q : Nat} {row : Obj} {w u : World} {F : List Int} (h : Stage B p q row w u F) : Wrote B p F w u := ⟨h.buf, h.below, h.kept⟩
theorem Stage.drew {B p q : Nat} {row : Obj} {w u : World} {F : List Int} (h : Stage B p q row w u F) : Stage B p q row w u.drew F := ⟨h.buf, h.below.drew, h.kept, h.row⟩
theorem wrap_byte (x : Int) : IntKind.u8.wrap x = x % 256 := by rw [IntKind.wrap_u8]
theorem met_no {c c' : Array Value} {fz fz' : Nat × Nat} : Obj.cells c 59 fz ≠ .cells c' 5 fz' := fun e => by injection e with _ h _; exact absurd h (by decide)
theorem hd_no {c c' : Array Value} {fz fz' : Nat × Nat} : Obj.cells c 90 fz ≠ .cells c' 5 fz' := fun e => by injection e with _ h _; exact absurd h (by decide)

set_option maxRecDepth 100000 in
set_option maxHeartbeats 8000000 in
theorem method_any (w0 : World) (p : Nat) (E : List Int) (m : MV) (w : World) (hm : m.At w0) (hf : FormsAt w0) (hp : Pow w0) (hb : Below w0.heap.size w0 w) (h : WB w0.heap.size p E w) (hg : GoodM m) (hn : E.length ≤ 100000000000) :
    Calls Tryz.prog 16 #[.pointer (some ⟨p, 0, none⟩), .agg m.cells.toArray] w fun e w' => e = .returned .nilIface ∧ Wrote w0.heap.size p (E ++ mb m) w w' := by
  have HG := hid hg
  have HML := hid (mb_len hg)
  obtain ⟨nm, ty, st, ab, pr, lo, vc, vh, code, hs⟩ := m
  obtain ⟨hc, hv⟩ := hm
  simp only [MV.cells] at hc hv ⊢
  obtain ⟨ac, cc, rfl⟩ := hc.val
  obtain ⟨ah, ch, rfl⟩ := hv.val
  have HC := hid hc
  have HV := hid hv
  have HF := hid hf
  have HP := hid hp
  have HB := hid hb
  have HN := hid hn
  obtain ⟨B, hB⟩ : ∃ B, w0.heap.size = B := ⟨_, rfl⟩
  rw [hB] at h ⊢
  have HBB := hid hB
  obtain ⟨q, hq⟩ : ∃ q, w.heap.size = q := ⟨_, rfl⟩
  have HQP : Hid (q ≠ p) := hid (by have := h.pl.2; omega)
  have HNM := hid (show nm.size ≤ 1048576 from hg.small.nm)
  have HTY := hid (show ty.size ≤ 1048576 from hg.small.ty)
  have HHL := hid (show hs.length ≤ 8 from hg.hlen)
  have HEL := hid (show (encTo code code.length).length ≤ 2000000000 from enc_len hg.code hg.nums)
  have HCE := hid (show codeErr code = 0 from hg.code)
  have HNU := hid (show ∀ x ∈ code, Small x ∧ InR x.a ∧ InR x.b from hg.nums)
  have HHS := hid (show ∀ x ∈ hs, x.cls.size ≤ 1048576 from hg.small.hs)
  have HBW : Hid (∀ u, Below B w u → Below w0.heap.size w0 u) := hid (fun u hu => HB.out.trans (by rw [HBB.out]; exact hu))
  have h40 : code.length ≤ 40 := by
    have := hg.code
    unfold codeErr at this
    simp only at this
    split at this
    · cases this
    · omega
  have hh8 : hs.length ≤ 8 := hg.hlen
  clear hc hv hf hp hb hn hB hg
  obtain ⟨W0, hW0⟩ : ∃ W0, w.alloc (.cells #[.string nm, .string ty, .bool st, .bool ab, .bool pr, .int .i64 lo, .slice ac code.length cc, .slice ah hs.length ch] 59) = W0 := ⟨_, rfl⟩
  have S0 : Hid (Stage B p q (.cells #[.string nm, .string ty, .bool st, .bool ab, .bool pr, .int .i64 lo, .slice ac code.length cc, .slice ah hs.length ch] 59) w W0 E) := hid (by
    subst hW0
    exact ⟨h.later (ext_alloc _ _), (ext_alloc _ _).mono h.base, kept_of_below (ext_alloc _ _), by rw [← hq]; exact heap_alloc_new _ _⟩)
  clear h
  go_enter Tryz.func16, Tryz.ntmps16
  have q0 := cell_of_row _ _ 0 _ _ _ S0.out.row
  go_wp2_with fail
  refine (wtext_any nm S0.out.buf (by have := HN.out; have := HNM.out; omega)).mono ?_
  rintro e w1 ⟨rfl, h1⟩
  have S1 := hid (S0.out.wrote h1 HQP.out fun _ _ => met_no)
  clear h1 hW0 q0
  have q1 := cell_of_row _ _ 1 _ _ _ S1.out.row
  go_wp2_with fail
  refine (wtext_any ty S1.out.buf (by have := HN.out; have := HNM.out; have := HTY.out; rw [List.length_append, tb_len]; omega)).mono ?_
  rintro e w2 ⟨rfl, h2⟩
  have S2 := hid (S1.out.wrote h2 HQP.out fun _ _ => met_no)
  clear h2 q1
  have q2 := cell_of_row _ _ 2 _ _ _ S2.out.row
  have q3 := cell_of_row _ _ 3 _ _ _ S2.out.row
  have q4 := cell_of_row _ _ 4 _ _ _ S2.out.row
  go_wp2_with fail
  refine (flags_any _ _ [st, ab, pr] (S2.out.later (ext_alloc _ _)).buf (Sl.lit _ #[.bool st, .bool ab, .bool pr] _ 3 1 rfl) (Nat.le_refl 3) (by have := HN.out; have := HNM.out; have := HTY.out; simp only [List.length_append, tb_len]; omega)).mono ?_
  rintro e w3 ⟨rfl, h3⟩
  have S3 := hid (((S2.out.later (ext_alloc _ _)).wrote h3 HQP.out fun _ _ => met_no).drew)
  clear h3 q2 q3 q4
  go_wp2_with fail
  refine wp_region_c (fun u => u.heap[q]? = some (.cells #[.string nm, .string ty, .bool st, .bool ab, .bool pr, .int .i64 lo, .slice ac code.length cc, .slice ah hs.length ch] 59)) (by kernel_rfl) ?_
  refine c_take 0 _ _ rfl (by kernel_rfl) (by kernel_rfl) (by kernel_rfl) rfl (fun c a' w' h => ⟨(putC_defers _ _ _).symm.trans h.1, h.2⟩) S3.out.row (fun u hu => by
    go_simp; rfl) ?_
  simp only [List.getElem_toArray, List.getElem_cons_zero, List.getElem_cons_succ, Act.put, List.setIfInBounds_toArray, List.set_cons_zero, List.set_cons_succ]
  refine c_take 1 _ _ rfl (by kernel_rfl) (by kernel_rfl) (by kernel_rfl) rfl (fun c a' w' h => ⟨(putC_defers _ _ _).symm.trans h.1, h.2⟩) S3.out.row (fun u hu => by
    go_simp; rfl) ?_
  simp only [List.getElem_toArray, List.getElem_cons_zero, List.getElem_cons_succ, Act.put, List.setIfInBounds_toArray, List.set_cons_zero, List.set_cons_succ]
  refine c_take 2 _ _ rfl (by kernel_rfl) (by kernel_rfl) (by kernel_rfl) rfl (fun c a' w' h => ⟨(putC_defers _ _ _).symm.trans h.1, h.2⟩) S3.out.row (fun u hu => by
    go_simp; rfl) ?_
  simp only [List.getElem_toArray, List.getElem_cons_zero, List.getElem_cons_succ, Act.put, List.setIfInBounds_toArray, List.set_cons_zero, List.set_cons_succ]
  refine c_take 3 _ _ rfl (by kernel_rfl) (by kernel_rfl) (by kernel_rfl) rfl (fun c a' w' h => ⟨(putC_defers _ _ _).symm.trans h.1, h.2⟩) S3.out.row (fun u hu => by
    go_simp; rfl) ?_
  simp only [List.getElem_toArray, List.getElem_cons_zero, List.getElem_cons_succ, Act.put, List.setIfInBounds_toArray, List.set_cons_zero, List.set_cons_succ]
  refine c_take 4 _ _ rfl (by kernel_rfl) (by kernel_rfl) (by kernel_rfl) rfl (fun c a' w' h => ⟨(putC_defers _ _ _).symm.trans h.1, h.2⟩) S3.out.row (fun u hu => by
    have q5 := cell_of_row _ _ 5 _ _ _ hu
    go_simp; rfl) ?_
  simp only [List.getElem_toArray, List.getElem_cons_zero, List.getElem_cons_succ, Act.put, List.setIfInBounds_toArray, List.set_cons_zero, List.set_cons_succ]
  refine c_take 5 _ _ rfl (by kernel_rfl) (by kernel_rfl) (by kernel_rfl) rfl (fun c a' w' h => ⟨(putC_defers _ _ _).symm.trans h.1, h.2⟩) S3.out.row (fun u hu => by
    go_simp; rfl) ?_
  simp only [List.getElem_toArray, List.getElem_cons_zero, List.getElem_cons_succ, Act.put, List.setIfInBounds_toArray, List.set_cons_zero, List.set_cons_succ]
  refine c_only 6 _ rfl (by kernel_rfl) ?_
  go_simp
  refine (wbyte_any _ S3.out.buf (by have := HN.out; have := HNM.out; have := HTY.out; simp only [List.length_append, tb_len, List.length_singleton]; omega)).mono ?_
  rintro e w4 ⟨rfl, h4⟩
  have S4 := hid (S3.out.wrote h4 HQP.out fun _ _ => met_no)
  clear h4
  refine ⟨S4.out.row, ?_⟩
  refine c_end (by kernel_rfl) ?_
  have q6 := cell_of_row _ _ 6 _ _ _ S4.out.row
  go_wp2_with fail
  refine (encode_any _ code _ (HC.out.below (HBW.out _ S4.out.below)) (HF.out.below (HBW.out _ S4.out.below)) (HP.out.below (HBW.out _ S4.out.below)) HNU.out (by omega)).mono ?_
  intro e w5 h5
  unfold EncBy at h5
  rw [if_pos HCE.out] at h5
  obtain ⟨v5, rfl, ho5⟩ := h5
  have S5 := hid (S4.out.later ho5.below)
  obtain ⟨C, hC⟩ : ∃ C, encTo code code.length = C := ⟨_, rfl⟩
  rw [hC] at ho5
  have HSL := hid ho5.sl
  have HCQ := hid hC
  have HCN : Hid (C ≠ []) := hid (by rw [← hC]; unfold encTo; simp)
  have HCL : Hid (C.length ≤ 2000000000) := hid (by rw [← hC]; exact HEL.out)
  obtain ⟨a5, c5, rfl⟩ := ho5.sl.val
  have HOW : Hid (∀ b, a5 = some b → b.block ≠ p) := hid (fun b hb => by
    subst hb
    have h1 := (ho5.own.lt b.block rfl).1
    have h2 := S4.out.buf.pl.2
    omega)
  clear ho5 hC q6
  go_wp2_with fail
  refine (write_any a5 c5 S5.out.buf HSL.out HCN.out HOW.out (by have := HN.out; have := HNM.out; have := HTY.out; have := HCL.out; simp only [List.length_append, tb_len, List.length_singleton]; omega)).mono ?_
  rintro e w6 ⟨rfl, h6⟩
  have S6 := hid ((S5.out.wrote h6 HQP.out fun _ _ => met_no).drew)
  clear h6
  go_wp2_with fail
  refine wp_region_c (fun u => u.heap[q]? = some (.cells #[.string nm, .string ty, .bool st, .bool ab, .bool pr, .int .i64 lo, .slice ac code.length cc, .slice ah hs.length ch] 59)) (by kernel_rfl) ?_
  refine c_take 0 _ _ rfl (by kernel_rfl) (by kernel_rfl) (by kernel_rfl) rfl (fun c a' w' h => ⟨(putC_defers _ _ _).symm.trans h.1, h.2⟩) S6.out.row (fun u hu => by
    go_simp; rfl) ?_
  simp only [List.getElem_toArray, List.getElem_cons_zero, List.getElem_cons_succ, Act.put, List.setIfInBounds_toArray, List.set_cons_zero, List.set_cons_succ]
  refine c_take 1 _ _ rfl (by kernel_rfl) (by kernel_rfl) (by kernel_rfl) rfl (fun c a' w' h => ⟨(putC_defers _ _ _).symm.trans h.1, h.2⟩) S6.out.row (fun u hu => by
    go_simp; rfl) ?_
  simp only [List.getElem_toArray, List.getElem_cons_zero, List.getElem_cons_succ, Act.put, List.setIfInBounds_toArray, List.set_cons_zero, List.set_cons_succ]
  refine c_take 2 _ _ rfl (by kernel_rfl) (by kernel_rfl) (by kernel_rfl) rfl (fun c a' w' h => ⟨(putC_defers _ _ _).symm.trans h.1, h.2⟩) S6.out.row (fun u hu => by
    go_simp; rfl) ?_
  simp only [List.getElem_toArray, List.getElem_cons_zero, List.getElem_cons_succ, Act.put, List.setIfInBounds_toArray, List.set_cons_zero, List.set_cons_succ]
  refine c_take 3 _ _ rfl (by kernel_rfl) (by kernel_rfl) (by kernel_rfl) rfl (fun c a' w' h => ⟨(putC_defers _ _ _).symm.trans h.1, h.2⟩) S6.out.row (fun u hu => by
    go_simp; rfl) ?_
  simp only [List.getElem_toArray, List.getElem_cons_zero, List.getElem_cons_succ, Act.put, List.setIfInBounds_toArray, List.set_cons_zero, List.set_cons_succ]
  refine c_take 4 _ _ rfl (by kernel_rfl) (by kernel_rfl) (by kernel_rfl) rfl (fun c a' w' h => ⟨(putC_defers _ _ _).symm.trans h.1, h.2⟩) S6.out.row (fun u hu => by
    have q7 := cell_of_row _ _ 7 _ _ _ hu
    go_simp; rfl) ?_
  simp only [List.getElem_toArray, List.getElem_cons_zero, List.getElem_cons_succ, Act.put, List.setIfInBounds_toArray, List.set_cons_zero, List.set_cons_succ]
  refine c_take 5 _ _ rfl (by kernel_rfl) (by kernel_rfl) (by kernel_rfl) rfl (fun c a' w' h => ⟨(putC_defers _ _ _).symm.trans h.1, h.2⟩) S6.out.row (fun u hu => by
    go_simp; rfl) ?_
  simp only [List.getElem_toArray, List.getElem_cons_zero, List.getElem_cons_succ, Act.put, List.setIfInBounds_toArray, List.set_cons_zero, List.set_cons_succ]
  refine c_take 6 _ _ rfl (by kernel_rfl) (by kernel_rfl) (by kernel_rfl) rfl (fun c a' w' h => ⟨(putC_defers _ _ _).symm.trans h.1, h.2⟩) S6.out.row (fun u hu => by
    go_simp; rfl) ?_
  simp only [List.getElem_toArray, List.getElem_cons_zero, List.getElem_cons_succ, Act.put, List.setIfInBounds_toArray, List.set_cons_zero, List.set_cons_succ]
  refine c_only 7 _ rfl (by kernel_rfl) ?_
  go_simp
  refine (wbyte_any _ S6.out.buf (by have := HN.out; have := HNM.out; have := HTY.out; have := HCL.out; simp only [List.length_append, tb_len, List.length_singleton]; omega)).mono ?_
  rintro e w7 ⟨rfl, h7⟩
  have S7 := hid (S6.out.wrote h7 HQP.out fun _ _ => met_no)
  clear h7
  refine ⟨S7.out.row, ?_⟩
  refine c_end (by kernel_rfl) ?_
  have q7 := cell_of_row _ _ 7 _ _ _ S7.out.row
  have HGS : Hid (∃ G : List Int, G.length ≤ 103000000000 ∧ Wrote B p G w w7 ∧ G ++ hs.flatMap hb = E ++ mb ⟨nm, ty, st, ab, pr, lo, .slice ac code.length cc, .slice ah hs.length ch, code, hs⟩) := hid ⟨_, by have := HN.out; have := HNM.out; have := HTY.out; have := HCL.out; simp only [List.length_append, tb_len, List.length_singleton]; omega, S7.out.all, by unfold mb; rw [HCQ.out]; simp only [List.append_assoc, wrap_byte]⟩
  go_wp2_with fail
  obtain ⟨G, hGL, hGW, hGE⟩ := HGS.out
  have HGL := hid hGL
  have HGW := hid hGW
  have HGE := hid hGE
  clear hGL hGW hGE q7
  go_loopw [58] (fun i wr => ∃ k : Nat, k ≤ hs.length ∧ i = .int .i64 k ∧ Hid (Wrote B p (G ++ (hs.take k).flatMap hb) w wr)) (fun i _ => hs.length - (intOf i).toNat)
  case atStart => exact ⟨0, Nat.zero_le _, rfl, hid (by simpa using HGW.out)⟩
  case round =>
    obtain ⟨k, hk, rfl, HR⟩ := hrel
    by_cases hlt : k < hs.length
    · obtain ⟨bb, off, hab, hc0, hc1, hc2, hc3⟩ := hd_at (HV.out.below (HBW.out _ HR.out.below)) hlt
      subst hab
      have hi : (0 : Int) ≤ (k : Int) := by omega
      have hkl : (k : Int) < (hs.length : Int) := by omega
      have HSZ := hid (HHS.out _ (List.getElem_mem hlt))
      have HNX : Hid ((hs.take (k + 1)).flatMap hb = (hs.take k).flatMap hb ++ hb hs[k]) := hid (flat_take hb hs hlt)
      have HKL : Hid (((hs.take k).flatMap hb).length ≤ 100000000) := hid (by
        have h1 := flat_le hb 1048580 (hs.take k) fun x hx => hb_len (HHS.out x (List.mem_of_mem_take hx))
        have h2 : (hs.take k).length ≤ 8 := by rw [List.length_take]; omega
        have h3 := Nat.mul_le_mul_right 1048580 h2
        omega)
      generalize hs[k] = x at hc0 hc1 hc2 hc3 HSZ HNX
      obtain ⟨fr, til, at_, cls⟩ := x
      simp only at hc0 hc1 hc2 hc3 HSZ
      obtain ⟨q', hq'⟩ : ∃ q', wr.heap.size = q' := ⟨_, rfl⟩
      have HQ' : Hid (q' ≠ p) := hid (by have := HR.out.buf.pl.2; omega)
      obtain ⟨X1, hX1⟩ : ∃ X1, wr.alloc (.cells #[.int .i64 fr, .int .i64 til, .int .i64 at_, .string cls] 90) = X1 := ⟨_, rfl⟩
      have T0 : Hid (Stage B p q' (.cells #[.int .i64 fr, .int .i64 til, .int .i64 at_, .string cls] 90) w X1.drew (G ++ (hs.take k).flatMap hb)) := hid (by
        subst hX1
        exact Stage.drew ⟨HR.out.buf.later (ext_alloc _ _), HR.out.below.trans ((ext_alloc _ _).mono HR.out.buf.base), HR.out.kept.trans (kept_of_below (ext_alloc _ _)), by rw [← hq']; exact heap_alloc_new _ _⟩)
      go_wp2_with fail
      refine wp_region_c (fun u => u.heap[q']? = some (.cells #[.int .i64 fr, .int .i64 til, .int .i64 at_, .string cls] 90)) (by kernel_rfl) ?_
      clear hc0 hc1 hc2 hc3 hX1
      refine c_take 0 _ _ rfl (by kernel_rfl) (by kernel_rfl) (by kernel_rfl) rfl (fun c a' w' h => ⟨(putC_defers _ _ _).symm.trans h.1, h.2⟩) T0.out.row (fun u hu => by
        go_simp; rfl) ?_
      simp only [List.getElem_toArray, List.getElem_cons_zero, List.getElem_cons_succ, Act.put, List.setIfInBounds_toArray, List.set_cons_zero, List.set_cons_succ]
      refine c_take 1 _ _ rfl (by kernel_rfl) (by kernel_rfl) (by kernel_rfl) rfl (fun c a' w' h => ⟨(putC_defers _ _ _).symm.trans h.1, h.2⟩) T0.out.row (fun u hu => by
        go_simp; rfl) ?_
      simp only [List.getElem_toArray, List.getElem_cons_zero, List.getElem_cons_succ, Act.put, List.setIfInBounds_toArray, List.set_cons_zero, List.set_cons_succ]
      refine c_take 2 _ _ rfl (by kernel_rfl) (by kernel_rfl) (by kernel_rfl) rfl (fun c a' w' h => ⟨(putC_defers _ _ _).symm.trans h.1, h.2⟩) T0.out.row (fun u hu => by
        go_simp; rfl) ?_
      simp only [List.getElem_toArray, List.getElem_cons_zero, List.getElem_cons_succ, Act.put, List.setIfInBounds_toArray, List.set_cons_zero, List.set_cons_succ]
      refine c_take 3 _ _ rfl (by kernel_rfl) (by kernel_rfl) (by kernel_rfl) rfl (fun c a' w' h => ⟨(putC_defers _ _ _).symm.trans h.1, h.2⟩) T0.out.row (fun u hu => by
        go_simp; rfl) ?_
      simp only [List.getElem_toArray, List.getElem_cons_zero, List.getElem_cons_succ, Act.put, List.setIfInBounds_toArray, List.set_cons_zero, List.set_cons_succ]
      refine c_take 4 _ _ rfl (by kernel_rfl) (by kernel_rfl) (by kernel_rfl) rfl (fun c a' w' h => ⟨(putC_defers _ _ _).symm.trans h.1, h.2⟩) T0.out.row (fun u hu => by
        have q0 := cell_of_row _ _ 0 _ _ _ hu
        go_simp; rfl) ?_
      simp only [List.getElem_toArray, List.getElem_cons_zero, List.getElem_cons_succ, Act.put, List.setIfInBounds_toArray, List.set_cons_zero, List.set_cons_succ]
      refine c_take 5 _ _ rfl (by kernel_rfl) (by kernel_rfl) (by kernel_rfl) rfl (fun c a' w' h => ⟨(putC_defers _ _ _).symm.trans h.1, h.2⟩) T0.out.row (fun u hu => by
        go_simp; rfl) ?_
      simp only [List.getElem_toArray, List.getElem_cons_zero, List.getElem_cons_succ, Act.put, List.setIfInBounds_toArray, List.set_cons_zero, List.set_cons_succ]
      refine c_take 6 _ _ rfl (by kernel_rfl) (by kernel_rfl) (by kernel_rfl) rfl (fun c a' w' h => ⟨(putC_defers _ _ _).symm.trans h.1, h.2⟩) T0.out.row (fun u hu => by
        go_simp; rfl) ?_
      simp only [List.getElem_toArray, List.getElem_cons_zero, List.getElem_cons_succ, Act.put, List.setIfInBounds_toArray, List.set_cons_zero, List.set_cons_succ]
      refine c_take 7 _ _ rfl (by kernel_rfl) (by kernel_rfl) (by kernel_rfl) rfl (fun c a' w' h => ⟨(putC_defers _ _ _).symm.trans h.1, h.2⟩) T0.out.row (fun u hu => by
        have q1 := cell_of_row _ _ 1 _ _ _ hu
        go_simp; rfl) ?_
      simp only [List.getElem_toArray, List.getElem_cons_zero, List.getElem_cons_succ, Act.put, List.setIfInBounds_toArray, List.set_cons_zero, List.set_cons_succ]
      refine c_take 8 _ _ rfl (by kernel_rfl) (by kernel_rfl) (by kernel_rfl) rfl (fun c a' w' h => ⟨(putC_defers _ _ _).symm.trans h.1, h.2⟩) T0.out.row (fun u hu => by
        go_simp; rfl) ?_
      simp only [List.getElem_toArray, List.getElem_cons_zero, List.getElem_cons_succ, Act.put, List.setIfInBounds_toArray, List.set_cons_zero, List.set_cons_succ]
      refine c_take 9 _ _ rfl (by kernel_rfl) (by kernel_rfl) (by kernel_rfl) rfl (fun c a' w' h => ⟨(putC_defers _ _ _).symm.trans h.1, h.2⟩) T0.out.row (fun u hu => by
        go_simp; rfl) ?_
      simp only [List.getElem_toArray, List.getElem_cons_zero, List.getElem_cons_succ, Act.put, List.setIfInBounds_toArray, List.set_cons_zero, List.set_cons_succ]
      refine c_take 10 _ _ rfl (by kernel_rfl) (by kernel_rfl) (by kernel_rfl) rfl (fun c a' w' h => ⟨(putC_defers _ _ _).symm.trans h.1, h.2⟩) T0.out.row (fun u hu => by
        have q2 := cell_of_row _ _ 2 _ _ _ hu
        go_simp; rfl) ?_
      simp only [List.getElem_toArray, List.getElem_cons_zero, List.getElem_cons_succ, Act.put, List.setIfInBounds_toArray, List.set_cons_zero, List.set_cons_succ]
      refine c_take 11 _ _ rfl (by kernel_rfl) (by kernel_rfl) (by kernel_rfl) rfl (fun c a' w' h => ⟨(putC_defers _ _ _).symm.trans h.1, h.2⟩) T0.out.row (fun u hu => by
        go_simp; rfl) ?_
      simp only [List.getElem_toArray, List.getElem_cons_zero, List.getElem_cons_succ, Act.put, List.setIfInBounds_toArray, List.set_cons_zero, List.set_cons_succ]
      refine c_only 12 _ rfl (by kernel_rfl) ?_
      go_simp
      have T1 := hid (T0.out.later (ext_alloc X1.drew (.cells #[.int .u8 (fr % 256), .int .u8 (til % 256), .int .u8 (at_ % 256)] 5)))
      refine ⟨T1.out.row, ?_⟩
      refine c_only 13 _ rfl (by kernel_rfl) ?_
      go_simp
      refine (write_any (F := [fr % 256, til % 256, at_ % 256]) _ _ T1.out.buf (Sl.lit _ #[.int .u8 (fr % 256), .int .u8 (til % 256), .int .u8 (at_ % 256)] _ 3 1 rfl) (by simp) (fun b hb => by
        cases hb
        have := T0.out.buf.pl.2
        intro e
        simp only at e
        omega) (by have := HGL.out; have := HKL.out; simp only [List.length_append, List.length_cons, List.length_nil]; omega)).mono ?_
      rintro e w2 ⟨rfl, h2⟩
      have T2 := hid (T1.out.wrote h2 HQ'.out fun _ _ => hd_no)
      clear h2
      refine ⟨T2.out.row, ?_⟩
      refine c_end (by kernel_rfl) ?_
      have q3 := cell_of_row _ _ 3 _ _ _ T2.out.row
      go_wp2_with fail
      refine (wtext_any cls T2.out.buf (by have := HGL.out; have := HKL.out; have := HSZ.out; simp only [List.length_append, List.length_cons, List.length_nil]; omega)).mono ?_
      rintro e w3 ⟨rfl, h3⟩
      have T3 : Hid (Wrote B p (G ++ (hs.take (k + 1)).flatMap hb) w w3) := hid (by
        have := (T2.out.wrote h3 HQ'.out fun _ _ => hd_no).all
        rw [HNX.out, show hb ⟨fr, til, at_, cls⟩ = [fr % 256, til % 256, at_ % 256] ++ tb cls from rfl]
        simpa only [List.append_assoc] using this)
      clear h3 q3
      go_wp2
      go_roundw
      case rel => exact ⟨k + 1, by omega, by go_num, T3⟩
      case measure => simp [intOf]; omega
    · have hge : ¬ (k : Int) < (hs.length : Int) := by omega
      have e : k = hs.length := by omega
      have HFI : Hid (Wrote B p (E ++ mb ⟨nm, ty, st, ab, pr, lo, .slice ac code.length cc, .slice ah hs.length ch, code, hs⟩) w wr) := hid (by
        have := HR.out
        rw [e, List.take_length, HGE.out] at this
        exact this)
      subst e
      go_wp2
      go_ret
      exact ⟨rfl, HFI.out⟩
end Go.Proofs.YtnhhaefoilhlhaaGreatDoor.files

set_option linter.unusedSimpArgs false
set_option linter.unusedVariables false
namespace Go.Proofs.YtnhhaefoilhlhaaGreatDoor.files
open Go.RowKit Go.Proofs.YtnhhaefoilhlhaaGreatDoor.lib Go.Proofs.YtnhhaefoilhlhaaGreatDoor.errs Go.Proofs.YtnhhaefoilhlhaaGreatDoor.names Go.Proofs.YtnhhaefoilhlhaaGreatDoor.descs Go.Proofs.YtnhhaefoilhlhaaGreatDoor.ins Go.Proofs.YtnhhaefoilhlhaaGreatDoor.flows Go.Proofs.YtnhhaefoilhlhaaGreatDoor.hdls Go.Proofs.YtnhhaefoilhlhaaGreatDoor.classes Go.Proofs.YtnhhaefoilhlhaaGreatDoor.txts Go.Proofs.YtnhhaefoilhlhaaGreatDoor.nums

theorem fb_all {T : Type} {f : T → List T → Int} : ∀ {l ahead : List T}, firstBad f ahead l = 0 → ∀ x ∈ l, ∃ a, f x a = 0
  | [], _, _, x, hx => by cases hx
  | y :: l, ahead, h, x, hx => by
    unfold firstBad at h
    by_cases h1 : f y ahead = 0
    · rw [if_pos h1] at h
      rcases List.mem_cons.1 hx with rfl | hx
      · exact ⟨_, h1⟩
      · exact fb_all h x hx
    · rw [if_neg h1] at h
      exact absurd h h1
theorem code_err {l : List I} (h : codeFault l = 0) : codeErr l = 0 := by
  unfold codeFault at h
  unfold codeErr
  split at h
  · cases h
  · rename_i h40
    rw [if_neg h40]
    split at h
    · rename_i hb; exact absurd h hb
    · rename_i hb; exact Classical.not_not.1 hb
theorem hd_few {n : Nat} {l : List Hd} (h : hdFault n l = 0) : l.length ≤ 8 := by
  unfold hdFault at h
  split at h
  · rename_i hb; exact absurd h hb
  · split at h
    · cases h
    · omega
theorem good_met {m : MV} {a : List MV} (h : metFault m a = 0) (hn : ∀ x ∈ m.code, Small x ∧ InR x.a ∧ InR x.b) (hs : SmallM m) : GoodM m := by
  have hb : bodyFault m = 0 := by
    unfold metFault at h
    repeat' split at h
    all_goals first | (exact absurd h (by decide)) | exact h
  unfold bodyFault at hb
  split at hb
  · unfold absFault at hb
    split at hb
    · cases hb
    · rename_i hno
      have hc : m.code = [] := List.eq_nil_of_length_eq_zero (by omega)
      exact ⟨by rw [hc]; rfl, hn, by omega, hs⟩
  · split at hb
    · rename_i hc; exact absurd hb hc
    · rename_i hc
      have h0 := Classical.not_not.1 hc
      split at hb
      · cases hb
      · split at hb
        · cases hb
        · exact ⟨code_err h0, hn, hd_few hb, hs⟩
/-- a right class -/
structure GoodC (c : CV) : Prop where
  fn : c.faces.length ≤ 8
  dn : c.fields.length ≤ 8
  mn : c.mets.length ≤ 8
  mets : ∀ m ∈ c.mets, GoodM m
  small : SmallC c
theorem good_cls {c : CV} (h : clsFault c = 0) (hn : ∀ m ∈ c.mets, ∀ x ∈ m.code, Small x ∧ InR x.a ∧ InR x.b) (hs : SmallC c) : GoodC c := by
  unfold clsFault at h
  by_cases a1 : headBad c = true
  · rw [if_pos a1] at h; cases h
  rw [if_neg a1] at h
  by_cases a2' : firstBad faceFault [] c.faces ≠ 0
  · rw [if_pos a2'] at h; exact absurd h a2'
  rw [if_neg a2'] at h
  by_cases a3 : 8 < c.faces.length ∨ 8 < c.fields.length ∨ 8 < c.mets.length
  · rw [if_pos a3] at h; cases h
  rw [if_neg a3] at h
  by_cases a4' : firstBad fieldFault [] c.fields ≠ 0
  · rw [if_pos a4'] at h; exact absurd h a4'
  rw [if_neg a4'] at h
  by_cases a5' : firstBad metFault [] c.mets ≠ 0
  · rw [if_pos a5'] at h; exact absurd h a5'
  exact ⟨by omega, by omega, by omega, fun m hm => by
    obtain ⟨a, ha⟩ := fb_all (Classical.not_not.1 a5') m hm
    exact good_met ha (hn m hm) (hs.mets m hm), hs⟩

/-- the bytes that a writer holds -/
theorem bytes_any {B p : Nat} {E : List Int} {w : World} (h : WB B p E w) (hE : E ≠ []) :
    Calls Tryz.prog 17 #[.pointer (some ⟨p, 0, none⟩)] w fun e w' => ∃ v, e = .returned v ∧ w'.ownsRow B 5 1 v E.length (E.map (.int .u8)) ∧ Below w.heap.size w w' := by
  obtain ⟨hB, v, lr, h3, hown, hne⟩ := h
  have c0 := h3.c0
  have c1 := h3.c1
  rw [List.length_map] at hown
  rcases hown.2 with ⟨_, h0⟩ | ⟨g, cap, cur, rfl, hBg, hg, hnc, hcm, hcs, htk⟩
  · exact absurd (List.eq_nil_of_length_eq_zero h0) hE
  have HOW := hid hown
  have k0 : (0 : Int) ≤ (E.length : Int) := by omega
  have k1 : (E.length : Int) ≤ (cap : Int) := by omega
  clear hown h3 hne hg htk
  simp only [Nat.zero_add] at c0 c1
  go_enter Tryz.func17, Tryz.ntmps17
  go_wp2_with fail
  go_quiet (fail)
  go_wp2
  go_ret
  exact ⟨_, rfl, HOW.out, below_drewN (Below.refl _ _) _⟩
end Go.Proofs.YtnhhaefoilhlhaaGreatDoor.files
