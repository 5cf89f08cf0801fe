/- The law MtypeTells: its walk. Condition: the texts are not long. -/
import Derived.Test.YtdnnnjedobknhaaDoorMtype11
import Derived.Test.YtdnnnjedobknhaaDoorInts
namespace Go.Proofs.YtdnnnjedobknhaaDoor.mtypes
open Go.RowKit Go.Proofs.YtdnnnjedobknhaaDoor.lib Go.Proofs.YtdnnnjedobknhaaDoor.errs Go.Proofs.YtdnnnjedobknhaaDoor.names Go.Proofs.YtdnnnjedobknhaaDoor.texts Go.Proofs.YtdnnnjedobknhaaDoor.descs Go.Proofs.YtdnnnjedobknhaaDoor.ints

set_option maxRecDepth 100000 in
set_option maxHeartbeats 4000000 in
theorem mtells_any (M t A : ByteArray) (vz : Value) (zs : List Int) (n : Int) (w : World) (hM : M.size ≤ 10000000) (ht : t.size ≤ 9223372036854775807) (hA : A.size ≤ 10000000) (hz : Sl w vz zs.length 1 (zs.map (.int .i64))) :
    Calls Tryd.prog 10 #[.string M, .int .i64 n, .string t, vz, .string A] w fun e w' => e = .returned (.bool true) ∧ Below w.heap.size w w' := by
  obtain ⟨b, d, rfl⟩ := hz.val
  have HZ := hid hz
  obtain ⟨z1, X1, HC1, HC5⟩ : ∃ (z1 : Int) (X1 : ByteArray), Hid (∀ w : World, Calls Tryd.prog 34 #[.string M, .int .i64 n] w fun e w' => e = .returned (.tuple #[.string X1, errVal z1]) ∧ Below w.heap.size w w') ∧ Hid (∀ w : World, Calls Tryd.prog 36 #[.string M, .int .i64 n] w fun e w' => e = .returned (.tuple #[.string X1, .int .i64 z1]) ∧ Below w.heap.size w w') :=
    ⟨(dropOf M.data.toList n).1, bs (dropOf M.data.toList n).2, hid (fun w => drop_any M n w hM), hid (fun w => dropType_any M n w hM)⟩
  obtain ⟨z2, X2, HC2, HC6⟩ : ∃ (z2 : Int) (X2 : ByteArray), Hid (∀ w : World, Calls Tryd.prog 33 #[.string M, .int .i64 n, .string t] w fun e w' => e = .returned (.tuple #[.string X2, errVal z2]) ∧ Below w.heap.size w w') ∧ Hid (∀ w : World, Calls Tryd.prog 37 #[.string M, .int .i64 n, .string t] w fun e w' => e = .returned (.tuple #[.string X2, .int .i64 z2]) ∧ Below w.heap.size w w') :=
    ⟨(putOf M.data.toList n t.data.toList).1, bs (putOf M.data.toList n t.data.toList).2, hid (fun w => put_any M n t w hM ht), hid (fun w => putType_any M n t w hM ht)⟩
  obtain ⟨z3, X3, HC3, HC7⟩ : ∃ (z3 : Int) (X3 : ByteArray), Hid (∀ w : World, Calls Tryd.prog 35 #[.string M, .int .i64 n, .string t] w fun e w' => e = .returned (.tuple #[.string X3, errVal z3]) ∧ Below w.heap.size w w') ∧ Hid (∀ w : World, Calls Tryd.prog 38 #[.string M, .int .i64 n, .string t] w fun e w' => e = .returned (.tuple #[.string X3, .int .i64 z3]) ∧ Below w.heap.size w w') :=
    ⟨(changeOf M.data.toList n t.data.toList).1, bs (changeOf M.data.toList n t.data.toList).2, hid (fun w => change_any M n t w hM ht), hid (fun w => changeType_any M n t w hM ht)⟩
  obtain ⟨z4, X4, HC4, HC8⟩ : ∃ (z4 : Int) (X4 : ByteArray), Hid (∀ w : World, Sl w (.slice b zs.length d) zs.length 1 (zs.map (.int .i64)) → Calls Tryd.prog 17 #[.string M, .slice b zs.length d, .string A] w fun e w' => e = .returned (.tuple #[.string X4, errVal z4]) ∧ Below w.heap.size w w') ∧ Hid (∀ w : World, Sl w (.slice b zs.length d) zs.length 1 (zs.map (.int .i64)) → Calls Tryd.prog 39 #[.string M, .slice b zs.length d, .string A] w fun e w' => e = .returned (.tuple #[.string X4, .int .i64 z4]) ∧ Below w.heap.size w w') :=
    ⟨(permuteOf M.data.toList A.data.toList zs).1, bs (permuteOf M.data.toList A.data.toList zs).2, hid (fun w hs => permute_any M A _ zs w hM hA hs), hid (fun w hs => permuteType_any M A _ zs w hM hA hs)⟩
  clear hz hM ht hA
  go_enter Tryd.func10, Tryd.ntmps10
  go_wp2_with fail
  refine (dropped_any w).mono ?_
  rintro e w0 ⟨rfl, hb0⟩
  have HB0 := hid hb0
  clear hb0
  go_wp2_with fail
  refine (HC1.out _).mono ?_
  rintro e w1 ⟨rfl, hb1⟩
  have HB1 := hid (HB0.out.trans (hb1.mono HB0.out.size))
  clear hb1
  go_wp2_with fail
  refine (HC2.out _).mono ?_
  rintro e w2 ⟨rfl, hb2⟩
  have HB2 := hid (HB1.out.trans (hb2.mono HB1.out.size))
  clear hb2
  go_wp2_with fail
  refine (HC3.out _).mono ?_
  rintro e w3 ⟨rfl, hb3⟩
  have HB3 := hid (HB2.out.trans (hb3.mono HB2.out.size))
  clear hb3
  go_wp2_with fail
  refine (HC4.out _ (HZ.out.below HB3.out)).mono ?_
  rintro e w4 ⟨rfl, hb4⟩
  have HB4 := hid (HB3.out.trans (hb4.mono HB3.out.size))
  clear hb4
  go_wp2_with fail
  refine (HC5.out _).mono ?_
  rintro e w5 ⟨rfl, hb5⟩
  have HB5 := hid (HB4.out.trans (hb5.mono HB4.out.size))
  clear hb5
  go_wp2_with fail
  refine (HC6.out _).mono ?_
  rintro e w6 ⟨rfl, hb6⟩
  have HB6 := hid (HB5.out.trans (hb6.mono HB5.out.size))
  clear hb6
  go_wp2_with fail
  refine (HC7.out _).mono ?_
  rintro e w7 ⟨rfl, hb7⟩
  have HB7 := hid (HB6.out.trans (hb7.mono HB6.out.size))
  clear hb7
  go_wp2_with fail
  refine (HC8.out _ (HZ.out.below HB7.out)).mono ?_
  rintro e w8 ⟨rfl, hb8⟩
  have HB8 := hid (HB7.out.trans (hb8.mono HB7.out.size))
  clear hb8
  go_wp2_with fail
  refine (error_same z1 _).mono ?_
  rintro e we ⟨rfl, rfl⟩
  go_wp2_with fail
  refine (error_same z2 _).mono ?_
  rintro e we ⟨rfl, rfl⟩
  go_wp2_with fail
  refine (error_same z3 _).mono ?_
  rintro e we ⟨rfl, rfl⟩
  go_wp2_with fail
  refine (error_same z4 _).mono ?_
  rintro e we ⟨rfl, rfl⟩
  go_wp2
  go_ret
  exact ⟨by simp, HB8.out⟩

end Go.Proofs.YtdnnnjedobknhaaDoor.mtypes
