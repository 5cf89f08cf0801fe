/- file.Decode: its walk. Conditions: the bytes are bytes, and not many; the variables that the library reads hold what they hold at the start. -/
import Derived.Test.YtnhhaefoilhlhaaGreatDoorFile15
import Derived.Test.YtnhhaefoilhlhaaGreatDoorCut4
set_option linter.unusedSimpArgs false
set_option linter.unusedVariables false
namespace Go.Proofs.YtnhhaefoilhlhaaGreatDoor.files
open Go.RowKit Go.Proofs.YtnhhaefoilhlhaaGreatDoor.lib Go.Proofs.YtnhhaefoilhlhaaGreatDoor.errs Go.Proofs.YtnhhaefoilhlhaaGreatDoor.names Go.Proofs.YtnhhaefoilhlhaaGreatDoor.descs Go.Proofs.YtnhhaefoilhlhaaGreatDoor.ins Go.Proofs.YtnhhaefoilhlhaaGreatDoor.flows Go.Proofs.YtnhhaefoilhlhaaGreatDoor.hdls Go.Proofs.YtnhhaefoilhlhaaGreatDoor.classes Go.Proofs.YtnhhaefoilhlhaaGreatDoor.txts Go.Proofs.YtnhhaefoilhlhaaGreatDoor.nums Go.Proofs.YtnhhaefoilhlhaaGreatDoor.keep Go.Proofs.YtnhhaefoilhlhaaGreatDoor.grow

theorem okC_none {b : List Int} (h : rdC b = none) : okC b = none := by unfold okC; rw [h]
theorem okC_is {b q : List Int} {c : CV} (h : rdC b = some (bareC c, q)) : okC b = if clsFault c = 0 ∧ cb c = b then some (bareC c) else none := by
  unfold okC
  rw [h]
  simp only
  rw [fault_bare, cb_bare]
theorem small_bare {c : CV} (h : SmallC (bareC c)) : SmallC c :=
  ⟨h.nm, h.sup, h.flen, h.faces, h.dlen, h.fields, by have := h.mlen; rwa [show (bareC c).mets = c.mets.map bare from rfl, List.length_map] at this, fun m hm => by
    have := h.mets (bare m) (List.mem_map_of_mem hm)
    exact ⟨this.nm, this.ty, this.len, this.code, this.hlen, this.hs⟩⟩
theorem fine_bare {c : CV} (h : ∀ m ∈ (bareC c).mets, ∀ x ∈ m.code, Fine x) : ∀ m ∈ c.mets, ∀ x ∈ m.code, Small x ∧ InR x.a ∧ InR x.b := fun m hm x hx => h (bare m) (List.mem_map_of_mem hm) x hx

/-- numbers that are bytes, told apart by their text -/
theorem str_apart : ∀ {X Y : List Int}, (∀ z ∈ X, 0 ≤ z ∧ z ≤ 255) → (∀ z ∈ Y, 0 ≤ z ∧ z ≤ 255) → Lib.bytesOf X = Lib.bytesOf Y → X = Y
  | [], [], _, _, _ => rfl
  | [], _ :: _, _, _, h => by cases h
  | _ :: _, [], _, _, h => by cases h
  | x :: X, y :: Y, hx, hy, h => by
    unfold Lib.bytesOf at h
    rw [List.map_cons, List.map_cons] at h
    obtain ⟨h1, h2⟩ := List.cons.inj h
    obtain ⟨a0, a1⟩ := hx x (List.mem_cons_self ..)
    obtain ⟨b0, b1⟩ := hy y (List.mem_cons_self ..)
    have h3 := congrArg UInt8.toNat h1
    rw [UInt8.toNat_ofNat', UInt8.toNat_ofNat'] at h3
    rw [str_apart (fun z hz => hx z (List.mem_cons_of_mem _ hz)) (fun z hz => hy z (List.mem_cons_of_mem _ hz)) h2]
    have : x = y := by omega
    rw [this]
theorem tb_bytes (s : ByteArray) : ∀ z ∈ tb s, 0 ≤ z ∧ z ≤ 255 := by
  intro z hz
  unfold tb at hz
  rcases List.mem_cons.1 hz with rfl | hz
  · omega
  · obtain ⟨b, _, rfl⟩ := List.mem_map.1 hz
    have := b.toNat_lt
    omega
theorem flat_bytes {T : Type} {f : T → List Int} {l : List T} (h : ∀ x ∈ l, ∀ z ∈ f x, 0 ≤ z ∧ z ≤ 255) : ∀ z ∈ l.flatMap f, 0 ≤ z ∧ z ≤ 255 := fun z hz => by
  obtain ⟨x, hx, hz⟩ := List.mem_flatMap.1 hz
  exact h x hx z hz
theorem hb_bytes (h : Hd) : ∀ z ∈ hb h, 0 ≤ z ∧ z ≤ 255 := by
  intro z hz
  unfold hb at hz
  rcases List.mem_append.1 hz with hz | hz
  · simp only [List.mem_cons, List.not_mem_nil, or_false] at hz
    rcases hz with rfl | rfl | rfl <;> omega
  · exact tb_bytes _ z hz
theorem fb_bytes (x : classes.Fd) : ∀ z ∈ fb x, 0 ≤ z ∧ z ≤ 255 := by
  intro z hz
  unfold fb at hz
  rcases List.mem_append.1 hz with hz | hz
  · exact tb_bytes _ z hz
  · exact tb_bytes _ z hz
theorem bit_byte1 (a : Bool) : 0 ≤ bit [a] ∧ bit [a] ≤ 255 := by cases a <;> decide
theorem bit_byte3 (a b c : Bool) : 0 ≤ bit [a, b, c] ∧ bit [a, b, c] ≤ 255 := by cases a <;> cases b <;> cases c <;> decide
theorem mb_bytes (m : MV) : ∀ z ∈ mb m, 0 ≤ z ∧ z ≤ 255 := by
  intro z hz
  unfold mb at hz
  simp only [List.mem_append, List.mem_singleton] at hz
  rcases hz with (((((hz | hz) | rfl) | rfl) | hz) | rfl) | hz
  · exact tb_bytes _ z hz
  · exact tb_bytes _ z hz
  · exact bit_byte3 _ _ _
  · omega
  · exact enc_bytes _ _ z hz
  · omega
  · exact flat_bytes (fun x _ => hb_bytes x) z hz
theorem cb_bytes (c : CV) : ∀ z ∈ cb c, 0 ≤ z ∧ z ≤ 255 := by
  intro z hz
  unfold cb at hz
  simp only [List.mem_append, List.mem_singleton] at hz
  rcases hz with ((((((((hz | hz) | hz) | rfl) | hz) | rfl) | rfl) | hz) | rfl) | hz
  · revert z; decide
  · exact tb_bytes _ z hz
  · exact tb_bytes _ z hz
  · omega
  · exact flat_bytes (fun x _ => tb_bytes x) z hz
  · exact bit_byte1 _
  · omega
  · exact flat_bytes (fun x _ => fb_bytes x) z hz
  · omega
  · exact flat_bytes (fun x _ => mb_bytes x) z hz

/-- where the call's own blocks lie -/
structure PL4 (w : World) (g ge p bx : Nat) : Prop where
  h1 : w.heap.size = g
  h2 : g + 1 = ge
  h3 : ge + 1 = p
  h4 : p + 1 = bx
theorem PL4.ne {w : World} {g ge p bx : Nat} (h : PL4 w g ge p bx) : g ≠ ge := by have := h.h2; omega
/-- the class as it is made, the error, the reader and its variable -/
structure DS (w u : World) (g ge p bx : Nat) (row : Array Value) (R : List Int) : Prop where
  box : u.heap[g]? = some (.cells row 26)
  ee : u.heap[ge]? = some (.cells #[.nilIface] 30)
  px : u.heap[bx]? = some (.cells #[.pointer (some ⟨p, 0, none⟩)] 63)
  rd : RD w p R u
section
variable {w u u' : World} {g ge p bx : Nat} {row : Array Value} {R R' : List Int}
theorem DS.rows (h : DS w u g ge p bx row R) (hq : PL4 w g ge p bx) (hk : Keeps (fun k => k = p) u u') : u'.heap[g]? = some (.cells row 26) ∧ u'.heap[ge]? = some (.cells #[.nilIface] 30) := by
  have h2 := hq.h2; have h3 := hq.h3
  exact ⟨kp_row hk h.box (by omega), kp_row hk h.ee (by omega)⟩
theorem DS.next (h : DS w u g ge p bx row R) (hq : PL4 w g ge p bx) (hk : Keeps (fun k => k = p) u u') (hr : RD w p R' u') : DS w u' g ge p bx row R' := by
  have h2 := hq.h2; have h3 := hq.h3; have h4 := hq.h4
  exact ⟨kp_row hk h.box (by omega), kp_row hk h.ee (by omega), kp_row hk h.px (by omega), hr⟩
theorem DS.set (h : DS w u g ge p bx row R) (hq : PL4 w g ge p bx) (i : Nat) (v : Value) : DS w (u.setCell ⟨g, i, none⟩ v) g ge p bx (row.setIfInBounds i v) R := by
  have h1 := hq.h1; have h2 := hq.h2; have h3 := hq.h3; have h4 := hq.h4
  have hk := Keeps.set u g i v
  exact ⟨heap_set h.box i v, (hk.block ge (Array.getElem?_eq_some_iff.1 h.ee).1 (by omega)).trans h.ee, (hk.block bx (Array.getElem?_eq_some_iff.1 h.px).1 (by omega)).trans h.px, h.rd.keeps hk fun k hk => by omega⟩
theorem DS.later (h : DS w u g ge p bx row R) (hb : Below u.heap.size u u') : DS w u' g ge p bx row R :=
  ⟨(hb.block _ (Array.getElem?_eq_some_iff.1 h.box).1).trans h.box, (hb.block _ (Array.getElem?_eq_some_iff.1 h.ee).1).trans h.ee, (hb.block _ (Array.getElem?_eq_some_iff.1 h.px).1).trans h.px, h.rd.later hb⟩
theorem DS.drew (h : DS w u g ge p bx row R) : DS w u.drew g ge p bx row R := ⟨h.box, h.ee, h.px, h.rd.drew⟩
theorem DS.far (h : DS w u g ge p bx row R) : bx < u.heap.size := (Array.getElem?_eq_some_iff.1 h.px).1
end
theorem MadeC.down {B B' : Nat} {c : CV} {u : World} (h : MadeC B c u) (hB : B' ≤ B) : MadeC B' c u :=
  ⟨owns_down h.faces hB, owns_down h.fields hB, owns_down h.sl hB, fun m hm => ⟨owns_down (h.mets m hm).1 hB, owns_down (h.mets m hm).2 hB⟩⟩
theorem own_stay {F : Nat → Prop} {B : Nat} {e : TypeId} {s n : Nat} {v : Value} {xs : List Value} {u u' : World} (h : u.ownsRow B e s v n xs) (hk : Keeps F u u') (hF : ∀ k, F k → k < B) : u'.ownsRow B e s v n xs :=
  owns_keeps h hk (fun k hk hf => by have h1 := (h.lt k hk).1; have h2 := hF k hf; omega) (Nat.le_refl _)

/-- what file.Decode answers -/
def DecFBy (w : World) (b : List Int) (e : Ending) (u : World) : Prop := Below w.heap.size w u ∧ match okC b with
  | none => e = .returned (.tuple #[.agg #[.string { data := #[] }, .string { data := #[] }, .slice none 0 0, .bool false, .slice none 0 0, .slice none 0 0], .iface 36 (.int .i64 1)])
  | some c0 => ∃ c : CV, bareC c = c0 ∧ MadeC w.heap.size c u ∧ e = .returned (.tuple #[.agg c.cells.toArray, .nilIface])
theorem two_res {u : World} {g ge : Nat} {r0 r1 r2 r3 r4 r5 : Value} {e : Value} (tmps : Array Value) (h2 : tmps.getD 2 undef = .pointer (some ⟨g, 0, none⟩)) (h3 : tmps.getD 3 undef = .pointer (some ⟨ge, 0, none⟩)) (hg : u.heap[g]? = some (.cells #[r0, r1, r2, r3, r4, r5] 26)) (he : u.heap[ge]? = some (.cells #[e] 30)) :
    (results Tryz.f8 tmps).run Tryz.prog u = .ok (.tuple #[.agg #[r0, r1, r2, r3, r4, r5], e]) u := by
  have h2' : tmps[2]?.getD undef = .pointer (some ⟨g, 0, none⟩) := by simpa using h2
  have h3' : tmps[3]?.getD undef = .pointer (some ⟨ge, 0, none⟩) := by simpa using h3
  have x0 : u.cell? ⟨g, 0, none⟩ = some r0 := by rw [cell_of_row _ _ _ _ _ _ hg]; rfl
  have x1 : u.cell? ⟨g, 1, none⟩ = some r1 := by rw [cell_of_row _ _ _ _ _ _ hg]; rfl
  have x2 : u.cell? ⟨g, 2, none⟩ = some r2 := by rw [cell_of_row _ _ _ _ _ _ hg]; rfl
  have x3 : u.cell? ⟨g, 3, none⟩ = some r3 := by rw [cell_of_row _ _ _ _ _ _ hg]; rfl
  have x4 : u.cell? ⟨g, 4, none⟩ = some r4 := by rw [cell_of_row _ _ _ _ _ _ hg]; rfl
  have x5 : u.cell? ⟨g, 5, none⟩ = some r5 := by rw [cell_of_row _ _ _ _ _ _ hg]; rfl
  have hee : u.cell? ⟨ge, 0, none⟩ = some e := by rw [cell_of_row _ _ _ _ _ _ he]; rfl
  simp [results, Tryz.results8, h2', h3', go_sem, asAddr, x0, x1, x2, x3, x4, x5, hee]
theorem dec_bad {w u u' w9 : World} {g ge p bx : Nat} {row : Array Value} {R b : List Int} (hq : PL4 w g ge p bx) (h : DS w u g ge p bx row R) (hk : Keeps (fun k => k = p) u u') (hn9 : w9.heap[g]? = some (.cells #[.string { data := #[] }, .string { data := #[] }, .slice none 0 0, .bool false, .slice none 0 0, .slice none 0 0] 26)) (he9 : w9.heap[ge]? = some (.cells #[.iface 36 (.int .i64 1)] 30)) (hk9 : Keeps (fun k => k = g ∨ k = ge) u' w9)
    (tmps : Array Value) (h2 : tmps.getD 2 undef = .pointer (some ⟨g, 0, none⟩)) (h3 : tmps.getD 3 undef = .pointer (some ⟨ge, 0, none⟩)) (hD : okC b = none) :
    Leaves Tryz.prog Tryz.f8 tmps (DecFBy w b) [] .returning w9 := by
  refine ⟨_, two_res tmps h2 h3 hn9 he9, ?_, ?_⟩
  · have hs := h.rd.below
    have h1 := hq.h1; have h2 := hq.h2; have h3 := hq.h3; have h4 := hq.h4
    have hb := Keeps.below hs hs.size hk (fun k hk => by omega)
    exact Keeps.below hb (Nat.le_trans hs.size hk.size) hk9 fun k hk => by omega
  · rw [hD]

theorem leaves_res {P : Program} {fn : Func} {tmps tmps' : Array Value} {R : Ending → World → Prop} (h : results fn tmps = results fn tmps') : ∀ (ds : List Deferred) (u : FrameMode) (w : World), Leaves P fn tmps R ds u w → Leaves P fn tmps' R ds u w
  | [], .returning, w, hl => by
    obtain ⟨v, h1, h2⟩ := hl
    exact ⟨v, h ▸ h1, h2⟩
  | [], .panicking c, w, hl => hl
  | [], .run, w, hl => hl
  | d :: ds, u, w, hl => by
    obtain ⟨h1, fv, cap, f, args, h2, h3, h4⟩ := hl
    refine ⟨h1, fv, cap, f, args, h2, h3, h4.mono fun e u' w' h5 => ?_⟩
    cases e with
    | returned v => exact leaves_res h ds _ _ h5
    | panicked c => exact leaves_res h ds _ _ h5
    | outgrown => exact h5
theorem leaves_put {a : Act} {d : Nat} {v : Value} {R : Ending → World → Prop} {u : FrameMode} {w : World} (h2 : d ≠ 2) (h3 : d ≠ 3) (h : Leaves Tryz.prog Tryz.f8 (a.put (some d) v).tmps R (a.put (some d) v).defers u w) : Leaves Tryz.prog Tryz.f8 a.tmps R a.defers u w := by
  refine leaves_res ?_ _ _ _ h
  have e2 : (a.put (some d) v).tmps.getD 2 undef = a.tmps.getD 2 undef := by
    show (a.tmps.setIfInBounds d v).getD 2 undef = _
    simp [Array.getElem?_setIfInBounds, h2]
  have e3 : (a.put (some d) v).tmps.getD 3 undef = a.tmps.getD 3 undef := by
    show (a.tmps.setIfInBounds d v).getD 3 undef = _
    simp [Array.getElem?_setIfInBounds, h3]
  unfold results
  rw [Tryz.results8]
  simp only [e2, e3, Array.mapM_eq_mapM_toList, List.mapM_cons, List.mapM_nil]

set_option maxRecDepth 100000 in
set_option maxHeartbeats 16000000 in
theorem fdecode_any (v : Value) (b : List Int) (w : World) (hb : Sl w v b.length 1 (b.map (.int .u8))) (hbb : Bytes b) (hv : Vars w) :
    Calls Tryz.prog 8 #[v] w (DecFBy w b) := by
  obtain ⟨a, cc, rfl⟩ := hb.val
  have HS := hid hb; have HBB := hid hbb; have HV := hid hv
  obtain ⟨g, hg⟩ : ∃ g, w.heap.size = g := ⟨_, rfl⟩
  obtain ⟨ge, hge⟩ : ∃ x, g + 1 = x := ⟨_, rfl⟩
  obtain ⟨p, hp⟩ : ∃ x, ge + 1 = x := ⟨_, rfl⟩
  obtain ⟨bx, hbx⟩ : ∃ x, p + 1 = x := ⟨_, rfl⟩
  have HQ := hid (show PL4 w g ge p bx from ⟨hg, hge, hp, hbx⟩)
  obtain ⟨n, hn⟩ : ∃ n, b.length = n := ⟨_, rfl⟩
  rw [hn]
  obtain ⟨WB, hWB⟩ : ∃ W, (((w.alloc (.cells #[.string { data := #[] }, .string { data := #[] }, .slice none 0 0, .bool false, .slice none 0 0, .slice none 0 0] 26)).alloc (.cells #[.nilIface] 30)).alloc (.cells #[.slice a n cc] 65)).alloc (.cells #[.pointer none] 63) = W := ⟨_, rfl⟩
  have s1 : (w.alloc (.cells #[.string { data := #[] }, .string { data := #[] }, .slice none 0 0, .bool false, .slice none 0 0, .slice none 0 0] 26)).heap.size = ge := by rw [World.size_alloc, hg, hge]
  have s2 : ((w.alloc (.cells #[.string { data := #[] }, .string { data := #[] }, .slice none 0 0, .bool false, .slice none 0 0, .slice none 0 0] 26)).alloc (.cells #[.nilIface] 30)).heap.size = p := by rw [World.size_alloc, s1, hp]
  have s3 : (((w.alloc (.cells #[.string { data := #[] }, .string { data := #[] }, .slice none 0 0, .bool false, .slice none 0 0, .slice none 0 0] 26)).alloc (.cells #[.nilIface] 30)).alloc (.cells #[.slice a n cc] 65)).heap.size = bx := by rw [World.size_alloc, s2, hbx]
  have A1 : WB.heap[g]? = some (.cells #[.string { data := #[] }, .string { data := #[] }, .slice none 0 0, .bool false, .slice none 0 0, .slice none 0 0] 26) := by
    subst hWB
    rw [(ext_alloc _ _).block g (by rw [s3]; omega), (ext_alloc _ _).block g (by rw [s2]; omega), (ext_alloc _ _).block g (by rw [s1]; omega), ← hg]
    exact heap_alloc_new _ _
  have A2 : WB.heap[ge]? = some (.cells #[.nilIface] 30) := by
    subst hWB
    rw [(ext_alloc _ _).block ge (by rw [s3]; omega), (ext_alloc _ _).block ge (by rw [s2]; omega), ← s1]
    exact heap_alloc_new _ _
  have A3 : WB.heap[p]? = some (.cells #[.slice a n cc] 65) := by
    subst hWB
    rw [(ext_alloc _ _).block p (by rw [s3]; omega), ← s2]
    exact heap_alloc_new _ _
  have A4 : WB.heap[bx]? = some (.cells #[.pointer none] 63) := by
    subst hWB
    rw [← s3]
    exact heap_alloc_new _ _
  have A5 : Below w.heap.size w WB := by
    subst hWB
    exact (((ext_alloc w _).alloc (by rw [s1]; omega) _).alloc (by rw [s2]; omega) _).alloc (by rw [s3]; omega) _
  have c0 : WB.cell? ⟨bx, 0, none⟩ = some (.pointer none) := by rw [cell_of_row _ _ _ _ _ _ A4]; rfl
  have c0f : WB.frozen? ⟨bx, 0, none⟩ = false := frozen_of_row _ _ _ _ _ A4
  obtain ⟨WS, hWS⟩ : ∃ W, WB.setCell ⟨bx, 0, none⟩ (.pointer (some ⟨p, 0, none⟩)) = W := ⟨_, rfl⟩
  have HD0 : Hid (DS w WS g ge p bx #[.string { data := #[] }, .string { data := #[] }, .slice none 0 0, .bool false, .slice none 0 0, .slice none 0 0] b) := hid (by
    subst hWS
    have hk := Keeps.set WB bx 0 (.pointer (some ⟨p, 0, none⟩))
    refine ⟨(hk.block g (Array.getElem?_eq_some_iff.1 A1).1 (by omega)).trans A1, (hk.block ge (Array.getElem?_eq_some_iff.1 A2).1 (by omega)).trans A2, heap_set A4 0 _, ⟨⟨_, (hk.block p (Array.getElem?_eq_some_iff.1 A3).1 (by omega)).trans A3, by rw [hn] at hb ⊢; exact hb⟩, A5.setCell (show w.heap.size ≤ bx by omega) _, by omega, hbb.1, hbb.2⟩⟩)
  have HLT : Hid (∀ k, k = g → k < bx + 1) := hid (fun k hk => by omega)
  have HLP : Hid (∀ k, k = p → k < bx + 1) := hid (fun k hk => by omega)
  have HNB : Hid (bx ≠ p) := hid (by omega)
  clear A1 A2 A3 A4 A5 s1 s2 s3 hb hbb hv
  have hmf : ∀ (fn : Fn) (first cap : Array Value) (w : World), (Instr.makeFunc fn first cap).run Tryz.prog w = .ok (.func fn first cap) w := fun _ _ _ _ => rfl
  have b0 : WS.cell? ⟨bx, 0, none⟩ = some (.pointer (some ⟨p, 0, none⟩)) := (cell_of_row _ _ 0 _ _ _ HD0.out.px).trans (show (#[Value.pointer (some ⟨p, 0, none⟩)] : Array Value)[0]? = some (.pointer (some ⟨p, 0, none⟩)) from rfl)
  go_enter_defers Tryz.func8, Tryz.ntmps8
  go_wp2_with fail
  have HPC := hid (piece_any 5 HD0.out.rd (by decide))
  rw [show ((5 : Nat) : Int) = 5 from rfl] at HPC
  refine HPC.out.mono ?_
  clear HPC
  intro e w1 h1
  by_cases hl5 : b.length < 5
  · obtain ⟨rfl, hk⟩ := reads_no h1 (if_pos hl5)
    obtain ⟨hx1, hx2⟩ := HD0.out.rows HQ.out hk
    refine leaves_cons (f := 18) (args := #[.pointer (some ⟨g, 0, none⟩), .pointer (some ⟨ge, 0, none⟩)]) (by simp) (by simp [go_sem]) ?_
    refine (fcatch_err g ge _ _ _ hx1 hx2 HQ.out.ne rfl).mono ?_
    rintro e u' w9 ⟨rfl, rfl, hn9, he9, hk9⟩
    exact dec_bad HQ.out HD0.out hk hn9 he9 hk9 _ rfl rfl (okC_none (by unfold rdC; rw [if_pos hl5]))

  obtain ⟨v1, rfl, _, hr, hk⟩ := reads_yes h1 (if_neg hl5)
  have HD1 := hid (HD0.out.next HQ.out hk hr)
  have HL5 := hid hl5
  obtain ⟨R1, hR1⟩ : ∃ R1, b.drop 5 = R1 := ⟨_, rfl⟩
  rw [hR1] at HD1
  have HR1 := hid hR1
  clear h1 hr hk hl5 b0 c0 c0f hWB hWS hR1
  go_wp2_with fail
  refine wp_region_c (fun u => u.heap[bx]? = some (.cells #[.pointer (some ⟨p, 0, none⟩)] 63)) (by kernel_rfl) ?_
  have D1 := hid HD1.out.drew
  refine c_take 0 _ _ rfl (by kernel_rfl) (by kernel_rfl) (by kernel_rfl) rfl (fun c a' w' h => leaves_put (by decide) (by decide) h) D1.out.px (fun u hu => by
    have q0 := (cell_of_row _ _ 0 _ _ _ hu).trans (show (#[Value.pointer (some ⟨p, 0, none⟩)] : Array Value)[0]? = some (.pointer (some ⟨p, 0, none⟩)) from rfl)
    go_simp; rfl) ?_
  simp only [List.getElem_toArray, List.getElem_cons_zero, List.getElem_cons_succ, Act.put, List.setIfInBounds_toArray, List.set_cons_zero, List.set_cons_succ]
  refine c_take 2 _ _ rfl (by kernel_rfl) (by kernel_rfl) (by kernel_rfl) rfl (fun c a' w' h => leaves_put (by decide) (by decide) h) D1.out.px (fun u hu => by
    have q0 := (cell_of_row _ _ 0 _ _ _ hu).trans (show (#[Value.pointer (some ⟨p, 0, none⟩)] : Array Value)[0]? = some (.pointer (some ⟨p, 0, none⟩)) from rfl)
    go_simp; rfl) ?_
  simp only [List.getElem_toArray, List.getElem_cons_zero, List.getElem_cons_succ, Act.put, List.setIfInBounds_toArray, List.set_cons_zero, List.set_cons_succ]
  refine c_only 1 _ rfl (by kernel_rfl) ?_
  go_simp
  refine (rtext_any D1.out.rd).mono ?_
  intro e w2 h2
  cases hp2 : rdT R1 with
  | none =>
    obtain ⟨rfl, hk⟩ := reads_no h2 hp2
    obtain ⟨hx1, hx2⟩ := D1.out.rows HQ.out hk
    refine leaves_cons (f := 18) (args := #[.pointer (some ⟨g, 0, none⟩), .pointer (some ⟨ge, 0, none⟩)]) (by simp) (by simp [go_sem]) ?_
    refine (fcatch_err g ge _ _ _ hx1 hx2 HQ.out.ne rfl).mono ?_
    rintro e u' w9 ⟨rfl, rfl, hn9, he9, hk9⟩
    exact dec_bad HQ.out D1.out hk hn9 he9 hk9 _ rfl rfl (okC_none (by unfold rdC; rw [if_neg HL5.out, HR1.out, hp2]; rfl))

  | some q2 =>
    obtain ⟨nm, R2⟩ := q2
    obtain ⟨v2, rfl, rfl, hr, hk⟩ := reads_yes h2 hp2
    have D2 := hid (D1.out.next HQ.out hk hr)
    have HP2 := hid hp2
    clear h2 hr hk hp2
    refine ⟨D2.out.px, ?_⟩
    try simp only [List.getElem_toArray, List.getElem_cons_zero, List.getElem_cons_succ, Act.put, List.setIfInBounds_toArray, List.set_cons_zero, List.set_cons_succ]
    refine c_take 4 _ _ rfl (by kernel_rfl) (by kernel_rfl) (by kernel_rfl) rfl (fun c a' w' h => leaves_put (by decide) (by decide) h) D2.out.px (fun u hu => by
      go_simp; rfl) ?_
    simp only [List.getElem_toArray, List.getElem_cons_zero, List.getElem_cons_succ, Act.put, List.setIfInBounds_toArray, List.set_cons_zero, List.set_cons_succ]

    refine c_only 3 _ rfl (by kernel_rfl) ?_
    go_simp
    refine (rtext_any D2.out.rd).mono ?_
    intro e w3 h3
    cases hp3 : rdT R2 with
    | none =>
      obtain ⟨rfl, hk⟩ := reads_no h3 hp3
      obtain ⟨hx1, hx2⟩ := D2.out.rows HQ.out hk
      refine leaves_cons (f := 18) (args := #[.pointer (some ⟨g, 0, none⟩), .pointer (some ⟨ge, 0, none⟩)]) (by simp) (by simp [go_sem]) ?_
      refine (fcatch_err g ge _ _ _ hx1 hx2 HQ.out.ne rfl).mono ?_
      rintro e u' w9 ⟨rfl, rfl, hn9, he9, hk9⟩
      exact dec_bad HQ.out D2.out hk hn9 he9 hk9 _ rfl rfl (okC_none (by unfold rdC; rw [if_neg HL5.out, HR1.out, HP2.out]; simp [hp3]))

    | some q3 =>
      obtain ⟨sup, R3⟩ := q3
      obtain ⟨v3, rfl, rfl, hr, hk⟩ := reads_yes h3 hp3
      have D3 := hid (D2.out.next HQ.out hk hr)
      have HP3 := hid hp3
      clear h3 hr hk hp3
      refine ⟨D3.out.px, ?_⟩
      try simp only [List.getElem_toArray, List.getElem_cons_zero, List.getElem_cons_succ, Act.put, List.setIfInBounds_toArray, List.set_cons_zero, List.set_cons_succ]
      have c0 : w3.cell? ⟨g, 0, none⟩ = some (.string { data := #[] }) := by rw [cell_of_row _ _ _ _ _ _ D3.out.box]; rfl
      have c0f : w3.frozen? ⟨g, 0, none⟩ = false := frozen_of_row _ _ _ _ _ D3.out.box
      have D4 := hid (D3.out.set HQ.out 0 (.string nm))
      obtain ⟨W4, hW4⟩ : ∃ W, w3.setCell ⟨g, 0, none⟩ (.string nm) = W := ⟨_, rfl⟩
      rw [hW4] at D4
      refine c_only 5 _ rfl (by kernel_rfl) ?_
      go_simp
      refine ⟨D4.out.px, ?_⟩
      try simp only [List.getElem_toArray, List.getElem_cons_zero, List.getElem_cons_succ, Act.put, List.setIfInBounds_toArray, List.set_cons_zero, List.set_cons_succ]
      clear c0 c0f hW4
      refine c_take 6 _ _ rfl (by kernel_rfl) (by kernel_rfl) (by kernel_rfl) rfl (fun c a' w' h => leaves_put (by decide) (by decide) h) D4.out.px (fun u hu => by
        go_simp; rfl) ?_
      simp only [List.getElem_toArray, List.getElem_cons_zero, List.getElem_cons_succ, Act.put, List.setIfInBounds_toArray, List.set_cons_zero, List.set_cons_succ]

      have c1 : W4.cell? ⟨g, 1, none⟩ = some (.string { data := #[] }) := by rw [cell_of_row _ _ _ _ _ _ D4.out.box]; rfl
      have c1f : W4.frozen? ⟨g, 1, none⟩ = false := frozen_of_row _ _ _ _ _ D4.out.box
      have D5 := hid (D4.out.set HQ.out 1 (.string sup))
      obtain ⟨W5, hW5⟩ : ∃ W, W4.setCell ⟨g, 1, none⟩ (.string sup) = W := ⟨_, rfl⟩
      rw [hW5] at D5
      refine c_only 7 _ rfl (by kernel_rfl) ?_
      go_simp
      refine ⟨D5.out.px, ?_⟩
      refine c_end (by kernel_rfl) ?_
      clear c1 c1f hW5
      have b5 : W5.cell? ⟨bx, 0, none⟩ = some (.pointer (some ⟨p, 0, none⟩)) := (cell_of_row _ _ 0 _ _ _ D5.out.px).trans (show (#[Value.pointer (some ⟨p, 0, none⟩)] : Array Value)[0]? = some (.pointer (some ⟨p, 0, none⟩)) from rfl)
      go_wp2_with fail
      refine (listT_any D5.out.rd).mono ?_
      intro e w6 h6
      cases hp : rdN rdT R3 with
      | none =>
        obtain ⟨rfl, hk⟩ := reads_no h6 hp
        obtain ⟨hx1, hx2⟩ := D5.out.rows HQ.out hk
        refine leaves_cons (f := 18) (args := #[.pointer (some ⟨g, 0, none⟩), .pointer (some ⟨ge, 0, none⟩)]) (by simp) (by simp [go_sem]) ?_
        refine (fcatch_err g ge _ _ _ hx1 hx2 HQ.out.ne rfl).mono ?_
        rintro e u' w9 ⟨rfl, rfl, hn9, he9, hk9⟩
        exact dec_bad HQ.out D5.out hk hn9 he9 hk9 _ rfl rfl (okC_none (by unfold rdC; rw [if_neg HL5.out, HR1.out, HP2.out]; simp [HP3.out, hp]))

      | some q6 =>
        obtain ⟨faces, R4⟩ := q6
        obtain ⟨vf, rfl, hof, hr, hk⟩ := reads_yes h6 hp
        have D6 := hid (D5.out.next HQ.out hk hr)
        have HP4 := hid hp
        obtain ⟨af, cf, rfl⟩ := (sl_of_owns hof).val
        have HOF6 : Hid (w6.ownsRow (bx + 1) 9 1 (.slice af faces.length cf) faces.length (faces.flatMap (fun x => [Value.string x]))) := hid (owns_down hof D5.out.far)
        clear h6 hr hk hp hof b5
        have c2 : w6.cell? ⟨g, 2, none⟩ = some (.slice none 0 0) := by rw [cell_of_row _ _ _ _ _ _ D6.out.box]; rfl
        have c2f : w6.frozen? ⟨g, 2, none⟩ = false := frozen_of_row _ _ _ _ _ D6.out.box
        obtain ⟨W7, hW7⟩ : ∃ W, w6.setCell ⟨g, 2, none⟩ (.slice af faces.length cf) = W := ⟨_, rfl⟩
        have K7 : Hid (Keeps (fun k => k = g) w6 W7) := hid (by subst hW7; exact Keeps.set w6 g 2 _)
        have D7 := hid (D6.out.set HQ.out 2 (.slice af faces.length cf))
        rw [hW7] at D7
        have HOF7 := hid (own_stay HOF6.out K7.out HLT.out)
        have b7 : W7.cell? ⟨bx, 0, none⟩ = some (.pointer (some ⟨p, 0, none⟩)) := (cell_of_row _ _ 0 _ _ _ D7.out.px).trans (show (#[Value.pointer (some ⟨p, 0, none⟩)] : Array Value)[0]? = some (.pointer (some ⟨p, 0, none⟩)) from rfl)
        go_wp2_with fail
        refine (number_any D7.out.rd).mono ?_
        intro e w8 h8
        cases hp : rdB R4 with
        | none =>
          obtain ⟨rfl, hk⟩ := reads_no h8 hp
          obtain ⟨hx1, hx2⟩ := D7.out.rows HQ.out hk
          refine leaves_cons (f := 18) (args := #[.pointer (some ⟨g, 0, none⟩), .pointer (some ⟨ge, 0, none⟩)]) (by simp) (by simp [go_sem]) ?_
          refine (fcatch_err g ge _ _ _ hx1 hx2 HQ.out.ne rfl).mono ?_
          rintro e u' w9 ⟨rfl, rfl, hn9, he9, hk9⟩
          exact dec_bad HQ.out D7.out hk hn9 he9 hk9 _ rfl rfl (okC_none (by unfold rdC; rw [if_neg HL5.out, HR1.out, HP2.out]; simp [HP3.out, HP4.out, hp]))

        | some q8 =>
          obtain ⟨z, R5⟩ := q8
          obtain ⟨v8, rfl, rfl, hr, hk⟩ := reads_yes h8 hp
          have D8 := hid (D7.out.next HQ.out hk hr)
          have HOF8 := hid (own_stay HOF7.out hk HLP.out)
          have HP5 := hid hp
          clear h8 hr hk hp c2 c2f b7 hW7
          have c3 : w8.cell? ⟨g, 3, none⟩ = some (.bool false) := by rw [cell_of_row _ _ _ _ _ _ D8.out.box]; rfl
          have c3f : w8.frozen? ⟨g, 3, none⟩ = false := frozen_of_row _ _ _ _ _ D8.out.box
          obtain ⟨face, hface⟩ : ∃ x, (z == 1) = x := ⟨_, rfl⟩
          have HFC : Hid (decide (z = 1) = face) := hid (by rw [← hface]; by_cases h : z = 1 <;> simp [h])
          obtain ⟨W9, hW9⟩ : ∃ W, w8.setCell ⟨g, 3, none⟩ (.bool face) = W := ⟨_, rfl⟩
          have K9 : Hid (Keeps (fun k => k = g) w8 W9) := hid (by subst hW9; exact Keeps.set w8 g 3 _)
          have D9 := hid (D8.out.set HQ.out 3 (.bool face))
          rw [hW9] at D9
          have HOF9 := hid (own_stay HOF8.out K9.out HLT.out)
          have b9 : W9.cell? ⟨bx, 0, none⟩ = some (.pointer (some ⟨p, 0, none⟩)) := (cell_of_row _ _ 0 _ _ _ D9.out.px).trans (show (#[Value.pointer (some ⟨p, 0, none⟩)] : Array Value)[0]? = some (.pointer (some ⟨p, 0, none⟩)) from rfl)
          go_wp2_with fail
          refine (listF_any D9.out.rd D9.out.px HNB.out).mono ?_
          intro e w10 h10
          cases hp : rdN rdF R5 with
          | none =>
            obtain ⟨rfl, hk⟩ := reads_no h10 hp
            obtain ⟨hx1, hx2⟩ := D9.out.rows HQ.out hk
            refine leaves_cons (f := 18) (args := #[.pointer (some ⟨g, 0, none⟩), .pointer (some ⟨ge, 0, none⟩)]) (by simp) (by simp [go_sem]) ?_
            refine (fcatch_err g ge _ _ _ hx1 hx2 HQ.out.ne rfl).mono ?_
            rintro e u' w9 ⟨rfl, rfl, hn9, he9, hk9⟩
            exact dec_bad HQ.out D9.out hk hn9 he9 hk9 _ rfl rfl (okC_none (by unfold rdC; rw [if_neg HL5.out, HR1.out, HP2.out]; simp [HP3.out, HP4.out, HP5.out, hp]))

          | some q10 =>
            obtain ⟨fields, R6⟩ := q10
            obtain ⟨vd, rfl, hod, hr, hk⟩ := reads_yes h10 hp
            have D10 := hid (D9.out.next HQ.out hk hr)
            have HOF10 := hid (own_stay HOF9.out hk HLP.out)
            have HP6 := hid hp
            obtain ⟨ad, cd, rfl⟩ := (sl_of_owns hod).val
            have HOD10 : Hid (w10.ownsRow (bx + 1) 55 2 (.slice ad fields.length cd) fields.length (fields.flatMap classes.Fd.cells)) := hid (owns_down hod D9.out.far)
            clear h10 hr hk hp hod c3 c3f b9 hW9 hface
            have c4 : w10.cell? ⟨g, 4, none⟩ = some (.slice none 0 0) := by rw [cell_of_row _ _ _ _ _ _ D10.out.box]; rfl
            have c4f : w10.frozen? ⟨g, 4, none⟩ = false := frozen_of_row _ _ _ _ _ D10.out.box
            obtain ⟨W11, hW11⟩ : ∃ W, w10.setCell ⟨g, 4, none⟩ (.slice ad fields.length cd) = W := ⟨_, rfl⟩
            have K11 : Hid (Keeps (fun k => k = g) w10 W11) := hid (by subst hW11; exact Keeps.set w10 g 4 _)
            have D11 := hid (D10.out.set HQ.out 4 (.slice ad fields.length cd))
            rw [hW11] at D11
            have HOF11 := hid (own_stay HOF10.out K11.out HLT.out)
            have HOD11 := hid (own_stay HOD10.out K11.out HLT.out)
            have b11 : W11.cell? ⟨bx, 0, none⟩ = some (.pointer (some ⟨p, 0, none⟩)) := (cell_of_row _ _ 0 _ _ _ D11.out.px).trans (show (#[Value.pointer (some ⟨p, 0, none⟩)] : Array Value)[0]? = some (.pointer (some ⟨p, 0, none⟩)) from rfl)
            go_wp2_with fail
            refine (listM_any D11.out.rd HV.out).mono ?_
            intro e w12 h12
            cases hp : rdN rdM R6 with
            | none =>
              obtain ⟨rfl, hk⟩ := reads_no h12 hp
              obtain ⟨hx1, hx2⟩ := D11.out.rows HQ.out hk
              refine leaves_cons (f := 18) (args := #[.pointer (some ⟨g, 0, none⟩), .pointer (some ⟨ge, 0, none⟩)]) (by simp) (by simp [go_sem]) ?_
              refine (fcatch_err g ge _ _ _ hx1 hx2 HQ.out.ne rfl).mono ?_
              rintro e u' w9 ⟨rfl, rfl, hn9, he9, hk9⟩
              exact dec_bad HQ.out D11.out hk hn9 he9 hk9 _ rfl rfl (okC_none (by unfold rdC; rw [if_neg HL5.out, HR1.out, HP2.out]; simp [HP3.out, HP4.out, HP5.out, HP6.out, hp]))

            | some q12 =>
              obtain ⟨mb0, R7⟩ := q12
              obtain ⟨vm, rfl, hom, hr, hk⟩ := reads_yes h12 hp
              obtain ⟨mets, rfl, hom, hoe⟩ := hom
              have D12 := hid (D11.out.next HQ.out hk hr)
              have HOF12 := hid (own_stay HOF11.out hk HLP.out)
              have HOD12 := hid (own_stay HOD11.out hk HLP.out)
              obtain ⟨am, cm, rfl⟩ := (sl_of_owns hom).val
              obtain ⟨c, hc⟩ : ∃ c : CV, c = ⟨nm, sup, .slice af faces.length cf, face, .slice ad fields.length cd, .slice am mets.length cm, faces, fields, mets⟩ := ⟨_, rfl⟩
              have HM12 : Hid (MadeC (bx + 1) c w12) := hid (by subst hc; exact ⟨HOF12.out, HOD12.out, owns_down hom D11.out.far, fun m hm => ⟨owns_down (hoe m hm).1 D11.out.far, owns_down (hoe m hm).2 D11.out.far⟩⟩)
              have HRC : Hid (rdC b = some (bareC c, R7)) := hid (by
                subst hc
                unfold rdC; rw [if_neg HL5.out, HR1.out, HP2.out]; simp [HP3.out, HP4.out, HP5.out, HP6.out, hp, HFC.out, bareC])
              have HSC : Hid (SmallC c ∧ ∀ m ∈ c.mets, ∀ x ∈ m.code, Small x ∧ InR x.a ∧ InR x.b) := hid (by
                obtain ⟨k1, k2, _⟩ := rdC_ok HRC.out HBB.out
                exact ⟨small_bare k1, fine_bare k2⟩)
              clear h12 hr hk hp hom hoe c4 c4f b11 hW11
              have c5 : w12.cell? ⟨g, 5, none⟩ = some (.slice none 0 0) := by rw [cell_of_row _ _ _ _ _ _ D12.out.box]; rfl
              have c5f : w12.frozen? ⟨g, 5, none⟩ = false := frozen_of_row _ _ _ _ _ D12.out.box
              obtain ⟨W13, hW13⟩ : ∃ W, w12.setCell ⟨g, 5, none⟩ (.slice am mets.length cm) = W := ⟨_, rfl⟩
              have K13 : Hid (Keeps (fun k => k = g) w12 W13) := hid (by subst hW13; exact Keeps.set w12 g 5 _)
              have D13 : Hid (DS w W13 g ge p bx #[.string nm, .string sup, .slice af faces.length cf, .bool face, .slice ad fields.length cd, .slice am mets.length cm] R7) := hid (by subst hW13; exact D12.out.set HQ.out 5 (.slice am mets.length cm))
              have HM13 := hid (HM12.out.keeps K13.out fun k hk => .inl (HLT.out k hk))
              have HE := hid (fencode_any c W13 HM13.out.at_ (HV.out.forms.below D13.out.rd.below) (HV.out.pow.below D13.out.rd.below) HSC.out.1 HSC.out.2)
              have HEC := hid hc
              rw [show (.agg c.cells.toArray : Value) = .agg #[.string nm, .string sup, .slice af faces.length cf, .bool face, .slice ad fields.length cd, .slice am mets.length cm] by subst hc; rfl] at HE
              have HCC : Hid (c.cells.toArray = #[.string nm, .string sup, .slice af faces.length cf, .bool face, .slice ad fields.length cd, .slice am mets.length cm]) := hid (by subst hc; rfl)
              clear hc
              go_wp2_with (refine wpList_load_row rfl 26 (.tmp 2) rfl g rfl _ _ _ _ D13.out.box Tryz.underlying26 rfl (by kernel_rfl) ?_)
              refine HE.out.mono ?_
              intro e w14 h14
              clear c5 c5f hW13 HE
              unfold FEncBy at h14
              by_cases h0 : clsFault c = 0
              · rw [if_pos h0] at h14
                obtain ⟨v14, rfl, ho⟩ := h14
                have D14 := hid (D13.out.later ho.below)
                have HM14 := hid (HM13.out.keeps (Keeps.of_below (F := fun _ => False) ho.below) (fun k hk => hk.elim))
                have hcs1 := run_conv_str (P := Tryz.prog) Tryz.underlying27 Tryz.underlying5 Tryz.underlying9 ho.sl
                have hcs2 := run_conv_str (P := Tryz.prog) Tryz.underlying27 Tryz.underlying5 Tryz.underlying9 (HS.out.below D14.out.rd.below)
                rw [hn] at hcs2
                have HCB := hid (Tryz.bytes_Equal _ _ _ _ w14 hcs1 hcs2)
                obtain ⟨a14, c14, rfl⟩ := ho.sl.val
                have H0 := hid h0
                clear ho hcs1 hcs2 h0
                by_cases hq : cb c = b
                · have hbe : (Lib.bytesOf (cb c) == Lib.bytesOf b) = true := by rw [hq]; simp
                  rw [hbe] at HCB
                  have HOK : Hid (okC b = some (bareC c)) := hid (by rw [okC_is HRC.out, if_pos ⟨H0.out, hq⟩])
                  clear hbe hq
                  obtain ⟨W15, hW15⟩ : ∃ W, w14.setRow g #[.string nm, .string sup, .slice af faces.length cf, .bool face, .slice ad fields.length cd, .slice am mets.length cm] = W := ⟨_, rfl⟩
                  have D15 : W15.heap[g]? = some (.cells #[.string nm, .string sup, .slice af faces.length cf, .bool face, .slice ad fields.length cd, .slice am mets.length cm] 26) := by subst hW15; exact setRow_heap w14 g _ _ _ _ D14.out.box
                  have K15 : Keeps (fun k => k = g) w14 W15 := by subst hW15; exact keeps_rowF w14 g _
                  have E15 : W15.heap[ge]? = some (.cells #[.nilIface] 30) := (K15.block ge (Array.getElem?_eq_some_iff.1 D14.out.ee).1 (fun h => HQ.out.ne h.symm)).trans D14.out.ee
                  have q1 : W15.cell? ⟨ge, 0, none⟩ = some .nilIface := by rw [cell_of_row _ _ _ _ _ _ E15]; rfl
                  have q2 : W15.frozen? ⟨ge, 0, none⟩ = false := frozen_of_row _ _ _ _ _ E15
                  obtain ⟨W16, hW16⟩ : ∃ W, W15.setCell ⟨ge, 0, none⟩ .nilIface = W := ⟨_, rfl⟩
                  have K16 : Keeps (fun k => k = ge) W15 W16 := by subst hW16; exact Keeps.set W15 ge 0 _
                  have HZ2 : Hid (W16.heap[ge]? = some (.cells #[.nilIface] 30)) := hid (by subst hW16; exact heap_set E15 0 _)
                  have HZ1 : Hid (W16.heap[g]? = some (.cells #[.string nm, .string sup, .slice af faces.length cf, .bool face, .slice ad fields.length cd, .slice am mets.length cm] 26)) := hid ((K16.block g (Array.getElem?_eq_some_iff.1 D15).1 HQ.out.ne).trans D15)
                  have HZK : Hid (Keeps (fun k => k = g ∨ k = ge) w14 W16) := hid ((K15.mono fun _ _ h => .inl h).trans (K16.mono fun _ _ h => .inr h))
                  clear D15 K15 E15 K16
                  go_wp2_with fail
                  refine HCB.out.mono ?_
                  rintro e w15 ⟨rfl, rfl⟩
                  go_wp2_with (first | (refine wpList_load_row rfl 26 (.tmp 2) rfl g rfl _ _ _ _ D14.out.box Tryz.underlying26 rfl (by kernel_rfl) ?_) | (refine wpList_store_row rfl 26 (.tmp 2) (.tmp 52) rfl g #[.string nm, .string sup, .slice af faces.length cf, .bool face, .slice ad fields.length cd, .slice am mets.length cm] rfl rfl 26 _ D14.out.box (by kernel_rfl) rfl (by simp [Value.oneCell']) ?_))
                  refine leaves_cons (f := 18) (args := #[.pointer (some ⟨g, 0, none⟩), .pointer (some ⟨ge, 0, none⟩)]) (by simp) (by simp [go_sem]) ?_
                  refine (fcatch_idle g ge _).mono ?_
                  rintro e u' w9 ⟨rfl, rfl, rfl⟩
                  refine ⟨_, two_res _ rfl rfl HZ1.out HZ2.out, ?_, ?_⟩
                  · exact Keeps.below D14.out.rd.below D14.out.rd.below.size HZK.out fun k hk => by omega
                  · rw [HOK.out]
                    refine ⟨c, rfl, (HM14.out.keeps HZK.out fun k hk => .inl (by omega)).down (by omega), ?_⟩
                    rw [HCC.out]
                · have hbe : (Lib.bytesOf (cb c) == Lib.bytesOf b) = false := by
                    rw [beq_eq_false_iff_ne]
                    exact fun h => hq (str_apart (cb_bytes c) HBB.out.1 h)
                  rw [hbe] at HCB
                  have HOK : Hid (okC b = none) := hid (by rw [okC_is HRC.out, if_neg (fun h => hq h.2)])
                  clear hbe hq
                  obtain ⟨W15, hW15⟩ : ∃ W, w14.setRow g #[.string { data := #[] }, .string { data := #[] }, .slice none 0 0, .bool false, .slice none 0 0, .slice none 0 0] = W := ⟨_, rfl⟩
                  have D15 : W15.heap[g]? = some (.cells #[.string { data := #[] }, .string { data := #[] }, .slice none 0 0, .bool false, .slice none 0 0, .slice none 0 0] 26) := by subst hW15; exact setRow_heap w14 g _ _ _ _ D14.out.box
                  have K15 : Keeps (fun k => k = g) w14 W15 := by subst hW15; exact keeps_rowF w14 g _
                  have E15 : W15.heap[ge]? = some (.cells #[.nilIface] 30) := (K15.block ge (Array.getElem?_eq_some_iff.1 D14.out.ee).1 (fun h => HQ.out.ne h.symm)).trans D14.out.ee
                  have q1 : W15.cell? ⟨ge, 0, none⟩ = some .nilIface := by rw [cell_of_row _ _ _ _ _ _ E15]; rfl
                  have q2 : W15.frozen? ⟨ge, 0, none⟩ = false := frozen_of_row _ _ _ _ _ E15
                  obtain ⟨W16, hW16⟩ : ∃ W, W15.setCell ⟨ge, 0, none⟩ (.iface 36 (.int .i64 1)) = W := ⟨_, rfl⟩
                  have K16 : Keeps (fun k => k = ge) W15 W16 := by subst hW16; exact Keeps.set W15 ge 0 _
                  have HZ2 : Hid (W16.heap[ge]? = some (.cells #[.iface 36 (.int .i64 1)] 30)) := hid (by subst hW16; exact heap_set E15 0 _)
                  have HZ1 : Hid (W16.heap[g]? = some (.cells #[.string { data := #[] }, .string { data := #[] }, .slice none 0 0, .bool false, .slice none 0 0, .slice none 0 0] 26)) := hid ((K16.block g (Array.getElem?_eq_some_iff.1 D15).1 HQ.out.ne).trans D15)
                  have HZK : Hid (Keeps (fun k => k = g ∨ k = ge) w14 W16) := hid ((K15.mono fun _ _ h => .inl h).trans (K16.mono fun _ _ h => .inr h))
                  clear D15 K15 E15 K16
                  go_wp2_with fail
                  refine HCB.out.mono ?_
                  rintro e w15 ⟨rfl, rfl⟩
                  go_wp2_with (refine wpList_store_row rfl 26 (.tmp 2) (.tmp 50) rfl g #[.string { data := #[] }, .string { data := #[] }, .slice none 0 0, .bool false, .slice none 0 0, .slice none 0 0] rfl rfl 26 _ D14.out.box (by kernel_rfl) rfl (by simp [Value.oneCell']) ?_)
                  refine leaves_cons (f := 18) (args := #[.pointer (some ⟨g, 0, none⟩), .pointer (some ⟨ge, 0, none⟩)]) (by simp) (by simp [go_sem]) ?_
                  refine (fcatch_idle g ge _).mono ?_
                  rintro e u' w9 ⟨rfl, rfl, rfl⟩
                  exact dec_bad HQ.out D14.out (Keeps.refl _ _) HZ1.out HZ2.out HZK.out _ rfl rfl HOK.out
              · rw [if_neg h0] at h14
                obtain ⟨rfl, hb14⟩ := h14
                have D14 := hid (D13.out.later hb14)
                have HOK : Hid (okC b = none) := hid (by rw [okC_is HRC.out, if_neg (fun h => h0 h.1)])
                clear hb14 h0
                obtain ⟨W15, hW15⟩ : ∃ W, w14.setRow g #[.string { data := #[] }, .string { data := #[] }, .slice none 0 0, .bool false, .slice none 0 0, .slice none 0 0] = W := ⟨_, rfl⟩
                have D15 : W15.heap[g]? = some (.cells #[.string { data := #[] }, .string { data := #[] }, .slice none 0 0, .bool false, .slice none 0 0, .slice none 0 0] 26) := by subst hW15; exact setRow_heap w14 g _ _ _ _ D14.out.box
                have K15 : Keeps (fun k => k = g) w14 W15 := by subst hW15; exact keeps_rowF w14 g _
                have E15 : W15.heap[ge]? = some (.cells #[.nilIface] 30) := (K15.block ge (Array.getElem?_eq_some_iff.1 D14.out.ee).1 (fun h => HQ.out.ne h.symm)).trans D14.out.ee
                have q1 : W15.cell? ⟨ge, 0, none⟩ = some .nilIface := by rw [cell_of_row _ _ _ _ _ _ E15]; rfl
                have q2 : W15.frozen? ⟨ge, 0, none⟩ = false := frozen_of_row _ _ _ _ _ E15
                obtain ⟨W16, hW16⟩ : ∃ W, W15.setCell ⟨ge, 0, none⟩ (.iface 36 (.int .i64 1)) = W := ⟨_, rfl⟩
                have K16 : Keeps (fun k => k = ge) W15 W16 := by subst hW16; exact Keeps.set W15 ge 0 _
                have HZ2 : Hid (W16.heap[ge]? = some (.cells #[.iface 36 (.int .i64 1)] 30)) := hid (by subst hW16; exact heap_set E15 0 _)
                have HZ1 : Hid (W16.heap[g]? = some (.cells #[.string { data := #[] }, .string { data := #[] }, .slice none 0 0, .bool false, .slice none 0 0, .slice none 0 0] 26)) := hid ((K16.block g (Array.getElem?_eq_some_iff.1 D15).1 HQ.out.ne).trans D15)
                have HZK : Hid (Keeps (fun k => k = g ∨ k = ge) w14 W16) := hid ((K15.mono fun _ _ h => .inl h).trans (K16.mono fun _ _ h => .inr h))
                clear D15 K15 E15 K16
                go_wp2_with (refine wpList_store_row rfl 26 (.tmp 2) (.tmp 50) rfl g #[.string { data := #[] }, .string { data := #[] }, .slice none 0 0, .bool false, .slice none 0 0, .slice none 0 0] rfl rfl 26 _ D14.out.box (by kernel_rfl) rfl (by simp [Value.oneCell']) ?_)
                refine leaves_cons (f := 18) (args := #[.pointer (some ⟨g, 0, none⟩), .pointer (some ⟨ge, 0, none⟩)]) (by simp) (by simp [go_sem]) ?_
                refine (fcatch_idle g ge _).mono ?_
                rintro e u' w9 ⟨rfl, rfl, rfl⟩
                exact dec_bad HQ.out D14.out (Keeps.refl _ _) HZ1.out HZ2.out HZK.out _ rfl rfl HOK.out
end Go.Proofs.YtnhhaefoilhlhaaGreatDoor.files
