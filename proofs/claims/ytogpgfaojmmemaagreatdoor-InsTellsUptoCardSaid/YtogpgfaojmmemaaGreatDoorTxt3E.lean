/- Instructions as text, as the document does it: InsText. Conditions: the numbers are of 64 bits; the texts are not long. -/
import Derived.Test.YtogpgfaojmmemaaGreatDoorTxt3A
import Derived.Test.YtogpgfaojmmemaaGreatDoorTxt3B
import Derived.Test.YtogpgfaojmmemaaGreatDoorTxt3C
import Derived.Test.YtogpgfaojmmemaaGreatDoorTxt3D
set_option linter.unusedSimpArgs false
set_option linter.unusedVariables false
namespace Go.Proofs.YtogpgfaojmmemaaGreatDoor.txts
open Go.RowKit Go.Proofs.YtogpgfaojmmemaaGreatDoor.lib Go.Proofs.YtogpgfaojmmemaaGreatDoor.errs Go.Proofs.YtogpgfaojmmemaaGreatDoor.names Go.Proofs.YtogpgfaojmmemaaGreatDoor.descs Go.Proofs.YtogpgfaojmmemaaGreatDoor.ins Go.Proofs.YtogpgfaojmmemaaGreatDoor.nums

theorem rtext_any (k : Nat) (a b : Int) (t c n : ByteArray) (w : World) (ht : t.size ≤ 10000000) (hc : c.size ≤ 10000000) (hn : n.size ≤ 10000000) (ha : InR a) (hb : InR b)
    (wd nd : List UInt8) (hk : formTab[k]? = some (wd, nd)) (h1 : 1 ≤ k) (h2 : k ≤ 28) :
    Calls Tryz.prog 17 #[.agg #[.int .i64 (k : Int), .int .i64 a, .int .i64 b, .string t, .string c, .string n]] w fun e w' => e = .returned (.string (bs (wd ++ tailL ⟨(k : Int), a, b, t, c, n⟩ nd))) ∧ Below w.heap.size w w' := by
  have h := (pat_of hk h1 h2).2.2.2.2.2
  simp only [patsL, List.mem_cons, List.not_mem_nil, or_false] at h
  rcases h with h | h | h | h | h | h | h | h
  · exact rtext0 k a b t c n w ht hc hn ha hb wd nd hk h1 h2 h
  · exact rtext1 k a b t c n w ht hc hn ha hb wd nd hk h1 h2 h
  · exact rtext2 k a b t c n w ht hc hn ha hb wd nd hk h1 h2 h
  · exact rtext3 k a b t c n w ht hc hn ha hb wd nd hk h1 h2 h
  · exact rtext4 k a b t c n w ht hc hn ha hb wd nd hk h1 h2 h
  · exact rtext5 k a b t c n w ht hc hn ha hb wd nd hk h1 h2 h
  · exact rtext6 k a b t c n w ht hc hn ha hb wd nd hk h1 h2 h
  · exact rtext7 k a b t c n w ht hc hn ha hb wd nd hk h1 h2 h
end Go.Proofs.YtogpgfaojmmemaaGreatDoor.txts
