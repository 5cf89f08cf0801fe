/- Instructions: ins.Check, by what a kind needs, joined. Condition: the type's text is shorter than ten million bytes. -/
import Derived.Test.YtloonnfelgokmaaGreatDoorZIns6a
import Derived.Test.YtloonnfelgokmaaGreatDoorZIns6b
import Derived.Test.YtloonnfelgokmaaGreatDoorZIns6c
import Derived.Test.YtloonnfelgokmaaGreatDoorZIns6d
set_option maxRecDepth 100000
set_option maxHeartbeats 16000000
set_option linter.unusedSimpArgs false
set_option linter.unusedVariables false
namespace Go.Proofs.YtloonnfelgokmaaGreatDoor.ins
open Go.RowKit lib errs names descs
theorem check_out (op a b : Int) (t c n : ByteArray) (w : World) (ho : op < 1 ∨ 28 < op) :
  Calls Tryz.prog 60 #[.agg #[.int .i64 op, .int .i64 a, .int .i64 b, .string t, .string c, .string n]] w fun e w' => e = .returned (errVal (insFault ⟨op, a, b, t, c, n⟩)) ∧ Below w.heap.size w w' := by
 have HS : Hid (insFault ⟨op, a, b, t, c, n⟩ = 1) := hid (by unfold insFault; rw [if_pos ho])
 have HO := hid (fun w => of_no op w ho)
 have HE := hid (ext_alloc w (.cells #[.int .i64 op, .int .i64 a, .int .i64 b, .string t, .string c, .string n] 56))
 clear ho
 go_enter Tryz.func60, Tryz.ntmps60
 go_wp2_with fail
 refine (HO.out _).mono ?_
 rintro e w1 ⟨rfl, hb1⟩
 have HB1 := hid (HE.out.trans (hb1.mono HE.out.size))
 have hE2 := ext_alloc w1 (.cells #[.string { data := #[] }, .string { data := #[] }] 180)
 have HB2 := hid (HB1.out.trans (hE2.mono HB1.out.size))
 clear hb1 hE2
 go_wp2
 go_ret
 rw [HS.out]
 exact ⟨rfl, HB2.out⟩
theorem icheck_any (op a b : Int) (t c n : ByteArray) (w : World) (hf : FormsAt w) (ht : t.size ≤ 10000000) (hc : c.size ≤ 9223372036854775807) (hn : n.size ≤ 9223372036854775807) :
  Calls Tryz.prog 60 #[.agg #[.int .i64 op, .int .i64 a, .int .i64 b, .string t, .string c, .string n]] w fun e w' => e = .returned (errVal (insFault ⟨op, a, b, t, c, n⟩)) ∧ Below w.heap.size w w' := by
 by_cases ho : op < 1 ∨ 28 < op
 ·exact check_out op a b t c n w ho
 obtain ⟨k, rfl⟩ : ∃ k : Nat, op = (k : Int) := ⟨op.toNat, by omega⟩
 have h1 : 1 ≤ k := by omega
 have h2 : k ≤ 28 := by omega
 have h0 : 1 ≤ (k : Int) ∧ (k : Int) ≤ 28 := by omega
 match k, h1, h2 with
 | 1, _, _ => exact classZ _ a b t c n (bs [110, 111, 112]) w (hid fun w hw => of_ok 1 [110, 111, 112] [] w rfl (by decide) (by decide) hw) (hid hf) h0 rfl rfl rfl rfl rfl ht hc hn
 | 2, _, _ => exact classAT _ a b t c n (bs [112, 117, 115, 104]) w (hid fun w hw => of_ok 2 [112, 117, 115, 104] [65, 84] w rfl (by decide) (by decide) hw) (hid hf) h0 rfl rfl rfl rfl rfl ht hc hn
 | 3, _, _ => exact classZ _ a b t c n (bs [110, 117, 108, 108]) w (hid fun w hw => of_ok 3 [110, 117, 108, 108] [] w rfl (by decide) (by decide) hw) (hid hf) h0 rfl rfl rfl rfl rfl ht hc hn
 | 4, _, _ => exact classA _ a b t c n (bs [108, 111, 97, 100]) w (hid fun w hw => of_ok 4 [108, 111, 97, 100] [65] w rfl (by decide) (by decide) hw) (hid hf) h0 rfl rfl rfl rfl rfl ht hc hn
 | 5, _, _ => exact classA _ a b t c n (bs [115, 116, 111, 114, 101]) w (hid fun w hw => of_ok 5 [115, 116, 111, 114, 101] [65] w rfl (by decide) (by decide) hw) (hid hf) h0 rfl rfl rfl rfl rfl ht hc hn
 | 6, _, _ => exact classZ _ a b t c n (bs [112, 111, 112]) w (hid fun w hw => of_ok 6 [112, 111, 112] [] w rfl (by decide) (by decide) hw) (hid hf) h0 rfl rfl rfl rfl rfl ht hc hn
 | 7, _, _ => exact classZ _ a b t c n (bs [100, 117, 112]) w (hid fun w hw => of_ok 7 [100, 117, 112] [] w rfl (by decide) (by decide) hw) (hid hf) h0 rfl rfl rfl rfl rfl ht hc hn
 | 8, _, _ => exact classZ _ a b t c n (bs [115, 119, 97, 112]) w (hid fun w hw => of_ok 8 [115, 119, 97, 112] [] w rfl (by decide) (by decide) hw) (hid hf) h0 rfl rfl rfl rfl rfl ht hc hn
 | 9, _, _ => exact classAT _ a b t c n (bs [109, 97, 116, 104]) w (hid fun w hw => of_ok 9 [109, 97, 116, 104] [65, 84] w rfl (by decide) (by decide) hw) (hid hf) h0 rfl rfl rfl rfl rfl ht hc hn
 | 10, _, _ => exact classT _ a b t c n (bs [99, 111, 110, 118]) w (hid fun w hw => of_ok 10 [99, 111, 110, 118] [84] w rfl (by decide) (by decide) hw) (hid hf) h0 rfl rfl rfl rfl rfl ht hc hn
 | 11, _, _ => exact classZ _ a b t c n (bs [111, 114, 100, 101, 114]) w (hid fun w hw => of_ok 11 [111, 114, 100, 101, 114] [] w rfl (by decide) (by decide) hw) (hid hf) h0 rfl rfl rfl rfl rfl ht hc hn
 | 12, _, _ => exact classAB _ a b t c n (bs [105, 102]) w (hid fun w hw => of_ok 12 [105, 102] [65, 66] w rfl (by decide) (by decide) hw) (hid hf) h0 rfl rfl rfl rfl rfl ht hc hn
 | 13, _, _ => exact classA _ a b t c n (bs [105, 102, 110, 117, 108, 108]) w (hid fun w hw => of_ok 13 [105, 102, 110, 117, 108, 108] [65] w rfl (by decide) (by decide) hw) (hid hf) h0 rfl rfl rfl rfl rfl ht hc hn
 | 14, _, _ => exact classA _ a b t c n (bs [103, 111, 116, 111]) w (hid fun w hw => of_ok 14 [103, 111, 116, 111] [65] w rfl (by decide) (by decide) hw) (hid hf) h0 rfl rfl rfl rfl rfl ht hc hn
 | 15, _, _ => exact classC _ a b t c n (bs [110, 101, 119]) w (hid fun w hw => of_ok 15 [110, 101, 119] [67] w rfl (by decide) (by decide) hw) (hid hf) h0 rfl rfl rfl rfl rfl ht hc hn
 | 16, _, _ => exact classCN _ a b t c n (bs [103, 101, 116]) w (hid fun w hw => of_ok 16 [103, 101, 116] [67, 78] w rfl (by decide) (by decide) hw) (hid hf) h0 rfl rfl rfl rfl rfl ht hc hn
 | 17, _, _ => exact classCN _ a b t c n (bs [112, 117, 116]) w (hid fun w hw => of_ok 17 [112, 117, 116] [67, 78] w rfl (by decide) (by decide) hw) (hid hf) h0 rfl rfl rfl rfl rfl ht hc hn
 | 18, _, _ => exact classT _ a b t c n (bs [110, 101, 119, 97, 114, 114, 97, 121]) w (hid fun w hw => of_ok 18 [110, 101, 119, 97, 114, 114, 97, 121] [84] w rfl (by decide) (by decide) hw) (hid hf) h0 rfl rfl rfl rfl rfl ht hc hn
 | 19, _, _ => exact classZ _ a b t c n (bs [108, 101, 110, 103, 116, 104]) w (hid fun w hw => of_ok 19 [108, 101, 110, 103, 116, 104] [] w rfl (by decide) (by decide) hw) (hid hf) h0 rfl rfl rfl rfl rfl ht hc hn
 | 20, _, _ => exact classT _ a b t c n (bs [97, 108, 111, 97, 100]) w (hid fun w hw => of_ok 20 [97, 108, 111, 97, 100] [84] w rfl (by decide) (by decide) hw) (hid hf) h0 rfl rfl rfl rfl rfl ht hc hn
 | 21, _, _ => exact classT _ a b t c n (bs [97, 115, 116, 111, 114, 101]) w (hid fun w hw => of_ok 21 [97, 115, 116, 111, 114, 101] [84] w rfl (by decide) (by decide) hw) (hid hf) h0 rfl rfl rfl rfl rfl ht hc hn
 | 22, _, _ => exact classT _ a b t c n (bs [99, 97, 115, 116]) w (hid fun w hw => of_ok 22 [99, 97, 115, 116] [84] w rfl (by decide) (by decide) hw) (hid hf) h0 rfl rfl rfl rfl rfl ht hc hn
 | 23, _, _ => exact classT _ a b t c n (bs [105, 115]) w (hid fun w hw => of_ok 23 [105, 115] [84] w rfl (by decide) (by decide) hw) (hid hf) h0 rfl rfl rfl rfl rfl ht hc hn
 | 24, _, _ => exact classTCN _ a b t c n (bs [99, 97, 108, 108]) w (hid fun w hw => of_ok 24 [99, 97, 108, 108] [84, 67, 78] w rfl (by decide) (by decide) hw) (hid hf) h0 rfl rfl rfl rfl rfl ht hc hn
 | 25, _, _ => exact classTCN _ a b t c n (bs [99, 97, 108, 108, 115]) w (hid fun w hw => of_ok 25 [99, 97, 108, 108, 115] [84, 67, 78] w rfl (by decide) (by decide) hw) (hid hf) h0 rfl rfl rfl rfl rfl ht hc hn
 | 26, _, _ => exact classZ _ a b t c n (bs [114, 101, 116, 117, 114, 110]) w (hid fun w hw => of_ok 26 [114, 101, 116, 117, 114, 110] [] w rfl (by decide) (by decide) hw) (hid hf) h0 rfl rfl rfl rfl rfl ht hc hn
 | 27, _, _ => exact classZ _ a b t c n (bs [103, 105, 118, 101]) w (hid fun w hw => of_ok 27 [103, 105, 118, 101] [] w rfl (by decide) (by decide) hw) (hid hf) h0 rfl rfl rfl rfl rfl ht hc hn
 | 28, _, _ => exact classZ _ a b t c n (bs [116, 104, 114, 111, 119]) w (hid fun w hw => of_ok 28 [116, 104, 114, 111, 119] [] w rfl (by decide) (by decide) hw) (hid hf) h0 rfl rfl rfl rfl rfl ht hc hn
 | k + 29, _, h => omega
end Go.Proofs.YtloonnfelgokmaaGreatDoor.ins
