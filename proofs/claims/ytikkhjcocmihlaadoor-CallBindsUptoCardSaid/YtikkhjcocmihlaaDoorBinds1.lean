/- Handles called: CallBinds in plain words. No condition. -/
import Derived.Test.YtikkhjcocmihlaaDoorCall9
import Derived.Test.YtikkhjcocmihlaaDoorMtype6
set_option linter.unusedSimpArgs false
set_option linter.unusedVariables false
namespace Go.Proofs.YtikkhjcocmihlaaDoor.hands
open Go.RowKit Go.Proofs.YtikkhjcocmihlaaDoor.lib Go.Proofs.YtikkhjcocmihlaaDoor.errs Go.Proofs.YtikkhjcocmihlaaDoor.descs Go.Proofs.YtikkhjcocmihlaaDoor.mtypes Go.Proofs.YtikkhjcocmihlaaDoor.nums

def noT : ByteArray := { data := #[] }
/-- a leaf that tells a number, and one that tells what it is given -/
def constN (t : ByteArray) (n : Int) : Nd := ⟨1, t, n, .slice none 0 0, .slice none 0 0, [], .nil⟩
def sameN (t : ByteArray) : Nd := ⟨2, t, 0, .slice none 0 0, .slice none 0 0, [], .nil⟩
def foOf (x : Nd) (F : Fo) : Fo := .cons x.k x.t x.a x.va x.vs x.ats x.subs F
/-- a handle with one more: bound (5) or filtered (7) at k -/
def pairN (q : Int) (k : Nat) (x y : Nd) (vs : Value) : Nd := ⟨q, noT, k, .slice none 0 0, vs, [], foOf x (foOf y .nil)⟩
/-- a handle that drops a number at k -/
def putN (k : Nat) (x : Nd) (vs : Value) : Nd := ⟨4, ⟨#[73]⟩, k, .slice none 0 0, vs, [], foOf x .nil⟩
theorem cnt_pair (q : Int) (k : Nat) (x y : Nd) (vs : Value) : cnt (pairN q k x y vs) = 1 + (cnt x + cnt y) := by
  simp only [cnt, pairN, foOf, cntF]; omega
theorem cnt_put (k : Nat) (x : Nd) (vs : Value) : cnt (putN k x vs) = 1 + cnt x := rfl
theorem cnt_const (t : ByteArray) (n : Int) : cnt (constN t n) = 1 := rfl
theorem cnt_same (t : ByteArray) : cnt (sameN t) = 1 := rfl
def isIJ (t : List UInt8) : Prop := t = [73] ∨ t = [74]
theorem ij_wd {t : List UInt8} (h : isIJ t) : isWd t = true ∧ isTy t = true := by rcases h with rfl | rfl <;> decide
theorem const_type {t : List UInt8} {n : Int} (h : isIJ t) (hn : t = [73] → n = wrap32 n) : typeN (constN (bs t) n) = (0, makeText [] t) := by
  have hl : leafF 1 t n = 0 := by
    unfold leafF
    rw [if_neg (by rw [(ij_wd h).1]; simp), if_neg (fun hc => hc.2.2 (wrap_fit (hn hc.2.1)))]
  show nodeType 1 t n [] [] = _
  rw [node_one t n [] (by decide) (by rfl)]
  show (leafF 1 t n, leafS 1 t n) = _
  unfold leafS
  rw [hl]; rfl
theorem same_type {t : List UInt8} (h : isIJ t) : typeN (sameN (bs t)) = (0, makeText [t] t) := by
  have hl : leafF 2 t 0 = 0 := by
    unfold leafF
    rw [if_neg (by rw [(ij_wd h).1]; simp), if_neg (by simp)]
  show nodeType 2 t 0 [] [] = _
  rw [node_one t 0 [] (by decide) (by rfl)]
  show (leafF 2 t 0, leafS 2 t 0) = _
  unfold leafS leafT
  rw [hl]
  simp [makeText]
theorem const_told (t : ByteArray) (n : Int) (az : List Int) : toldN (constN t n) az = some n := rfl
theorem same_told (t : ByteArray) (n : Int) : toldN (sameN t) [n] = some n := rfl
theorem make_const {t : List UInt8} (h : isIJ t) : methodOf (makeText [] t) = some ([], t) := method_make (by rcases h with rfl | rfl <;> decide)
theorem make_same {t : List UInt8} (h : isIJ t) : methodOf (makeText [t] t) = some ([t], t) := method_make (by rcases h with rfl | rfl <;> decide)
theorem ins_erase {az : List Int} {k : Nat} (hk : k < az.length) : insAt (az.eraseIdx k) k (az.getD k 0) = az := by
  apply List.ext_getElem?
  intro j
  have hl : k ≤ (az.eraseIdx k).length := by rw [List.length_eraseIdx, if_pos hk]; omega
  rw [insAt_get _ _ _ hl]
  by_cases h1 : j < k
  · rw [if_pos h1, List.getElem?_eraseIdx, if_pos h1]
  · rw [if_neg h1]
    by_cases h2 : j = k
    · subst h2; rw [if_pos rfl, List.getElem?_eq_getElem hk]; simp [List.getD, List.getElem?_eq_getElem hk]
    · rw [if_neg h2, List.getElem?_eraseIdx, if_neg (by omega)]
      congr 1; omega
theorem erase_ins {az : List Int} {k : Nat} (n : Int) (hk : k ≤ az.length) : (insAt az k n).eraseIdx k = az := by
  apply List.ext_getElem?
  intro j
  rw [List.getElem?_eraseIdx]
  by_cases h1 : j < k
  · rw [if_pos h1, insAt_get _ _ _ hk, if_pos h1]
  · rw [if_neg h1, insAt_get _ _ _ hk, if_neg (by omega), if_neg (by omega)]; rfl
theorem set_same {az : List Int} {k : Nat} (hk : k < az.length) : az.set k (az.getD k 0) = az := by
  apply List.ext_getElem?
  intro j
  rw [List.getElem?_set]
  by_cases h : k = j
  · subst h; simp [List.getD, List.getElem?_eq_getElem hk, hk]
  · rw [if_neg h]

section
variable {x : Nd} {az : List Int} {n : Int} {ts : List (List UInt8)} {g t : List UInt8} {k : Nat}
/-- what a handle that answers has -/
theorem binds_facts (h : callW x az = (0, n)) (hm : methodOf (typeW x).2 = some (ts, g)) : (typeW x).1 = 0 ∧ (typeN x).1 = 0 ∧ methodOf (typeN x).2 = some (ts, g) ∧ ts.length = az.length ∧ rangeBad ts az = false ∧ toldN x az = some n := by
  obtain ⟨ts', g', h0, hm', hl, hb, ht⟩ := call_ok h
  rw [hm] at hm'
  cases hm'
  have hty := (typeW_small h0).2
  exact ⟨h0, hty ▸ h0, hty ▸ hm, hl, hb, ht⟩
theorem bad_erase (hl : ts.length = az.length) (h : rangeBad ts az = false) : rangeBad (ts.eraseIdx k) (az.eraseIdx k) = false := by
  rw [bad_at (by rw [List.length_eraseIdx, List.length_eraseIdx, hl])]
  intro i t n ht hn hI
  rw [List.getElem?_eraseIdx] at ht hn
  by_cases h1 : i < k
  · rw [if_pos h1] at ht hn; exact (bad_at hl).1 h i t n ht hn hI
  · rw [if_neg h1] at ht hn; exact (bad_at hl).1 h (i + 1) t n ht hn hI
theorem bad_ins (hl : ts.length = az.length) (h : rangeBad ts az = false) (hk : k ≤ az.length) (c : Int) : rangeBad (putL ts k [73]) (insAt az k (wrap32 c)) = false := by
  have hkt : k ≤ ts.length := by omega
  have hp : (putL ts k [73]).length = (insAt az k (wrap32 c)).length := by rw [putL_len _ hkt, insAt_len _ hk, hl]
  have hget : ∀ j, (putL ts k [73])[j]? = if j < k then ts[j]? else if j = k then some [73] else ts[j - 1]? := by
    intro j
    unfold putL
    have hl2 : (ts.take k).length = k := by rw [List.length_take]; omega
    by_cases h1 : j < k
    · rw [if_pos h1, List.getElem?_append_left (by omega), List.getElem?_take, if_pos h1]
    · rw [if_neg h1, List.getElem?_append_right (by omega), hl2]
      by_cases h2 : j = k
      · rw [if_pos h2, h2, Nat.sub_self]; rfl
      · rw [if_neg h2, show j - k = (j - k - 1) + 1 from by omega, List.getElem?_cons_succ, List.getElem?_drop]
        congr 1; omega
  rw [bad_at hp]
  intro i t n ht hn hI
  rw [hget] at ht
  rw [insAt_get _ _ _ hk] at hn
  by_cases h1 : i < k
  · rw [if_pos h1] at ht hn; exact (bad_at hl).1 h i t n ht hn hI
  · rw [if_neg h1] at ht hn
    by_cases h2 : i = k
    · rw [if_pos h2] at hn
      cases hn
      unfold wrap32; omega
    · rw [if_neg h2] at ht hn; exact (bad_at hl).1 h (i - 1) t n ht hn hI
theorem binds_bind (h : callW x az = (0, n)) (hm : methodOf (typeW x).2 = some (ts, g)) (hc : cnt x ≤ 20) (hk : k < ts.length) (ht : ts[k] = t) (hij : isIJ t) (vs : Value) :
    callW (pairN 5 k x (constN (bs t) (az.getD k 0)) vs) (az.eraseIdx k) = (0, n) := by
  obtain ⟨h0, hn0, hmn, hl, hb, htd⟩ := binds_facts h hm
  have hka : k < az.length := by omega
  have hfit : t = [73] → az.getD k 0 = wrap32 (az.getD k 0) := fun e => (bad_at hl).1 hb k t _ (by rw [List.getElem?_eq_getElem hk, ht]) (by simp [List.getD, List.getElem?_eq_getElem hka]) e
  have hct := const_type (n := az.getD k 0) hij hfit
  have hf0 : filledF ts [] t k 0 = 0 := by
    unfold filledF
    rw [if_neg (by omega), if_neg (by simp), if_neg (by rw [Int.toNat_natCast, List.getElem?_eq_getElem hk, ht]; simp)]
  have hty : typeW (pairN 5 k x (constN (bs t) (az.getD k 0)) vs) = (0, makeText (ts.eraseIdx k) g) := by
    unfold typeW
    rw [if_neg (by rw [cnt_pair, cnt_const]; omega)]
    show nodeType 5 noT.data.toList k [] ([x, constN (bs t) (az.getD k 0)].map typeN) = _
    rw [node_bind (.inl rfl) hn0 (by rw [hct]), hct, bind_drop hmn (make_const hij) hf0]
    unfold dropOf
    rw [hmn]
    simp only
    rw [if_neg (by omega), Int.toNat_natCast]
  refine call_is (ts := ts.eraseIdx k) (g := g) (by rw [hty]) (by rw [hty]; exact method_make (fault_erase hm).1) (by rw [List.length_eraseIdx, List.length_eraseIdx, hl]) (bad_erase hl hb) ?_
  rw [told_two (y := x) (z := constN (bs t) (az.getD k 0)) rfl (by show ¬ (5 : Int) = 1; decide) (by show ¬ (5 : Int) = 3; decide), if_pos (by rfl), const_told]
  show toldN x (insAt (az.eraseIdx k) ((k : Int)).toNat (az.getD k 0)) = _
  rw [Int.toNat_natCast, ins_erase hka, htd]
theorem binds_filter (h : callW x az = (0, n)) (hm : methodOf (typeW x).2 = some (ts, g)) (hc : cnt x ≤ 20) (hk : k < ts.length) (ht : ts[k] = t) (hij : isIJ t) (vs : Value) :
    callW (pairN 7 k x (sameN (bs t)) vs) az = (0, n) := by
  obtain ⟨h0, hn0, hmn, hl, hb, htd⟩ := binds_facts h hm
  have hka : k < az.length := by omega
  have hst := same_type hij
  have hf1 : filledF ts [t] t k 1 = 0 := by
    unfold filledF
    rw [if_neg (by omega), if_neg (by simp), if_neg (by rw [Int.toNat_natCast, List.getElem?_eq_getElem hk, ht]; simp)]
  have hset : ts.set k t = ts := by rw [← ht]; exact List.set_getElem_self hk
  have hty : typeW (pairN 7 k x (sameN (bs t)) vs) = (0, makeText ts g) := by
    unfold typeW
    rw [if_neg (by rw [cnt_pair, cnt_same]; omega)]
    show nodeType 7 noT.data.toList k [] ([x, sameN (bs t)].map typeN) = _
    rw [node_bind (.inr rfl) hn0 (by rw [hst]), hst, bind_change hmn (make_same hij) hf1]
    unfold changeOf
    rw [hmn]
    simp only
    rw [if_neg (by omega), if_pos (ij_wd hij).2, Int.toNat_natCast, hset]
  refine call_is (ts := ts) (g := g) (by rw [hty]) (by rw [hty]; exact method_make (make_method hm).1) hl hb ?_
  rw [told_two (y := x) (z := sameN (bs t)) rfl (by show ¬ (7 : Int) = 1; decide) (by show ¬ (7 : Int) = 3; decide), if_neg (by show ¬ (7 : Int) = 5; decide)]
  show ((toldN (sameN (bs t)) [az.getD ((k : Int)).toNat 0]).bind fun m => toldN x (az.set ((k : Int)).toNat m)) = _
  rw [Int.toNat_natCast, same_told]
  show toldN x (az.set k (az.getD k 0)) = _
  rw [set_same hka, htd]
theorem binds_put (h : callW x az = (0, n)) (hm : methodOf (typeW x).2 = some (ts, g)) (hc : cnt x ≤ 20) (hk : k < ts.length) (c : Int) (vs : Value) :
    callW (putN k x vs) (insAt az k (wrap32 c)) = (0, n) ∨ callW (putN k x vs) (insAt az k (wrap32 c)) = (4, 0) := by
  obtain ⟨h0, hn0, hmn, hl, hb, htd⟩ := binds_facts h hm
  have hka : k < az.length := by omega
  have h5 := (text_small (make_method hm).1).1
  by_cases h6 : ts.length = 5
  · refine .inr (call_bad ?_ (by decide))
    unfold typeW
    rw [if_neg (by rw [cnt_put]; omega)]
    show (nodeType 4 [73] k [] ([x].map typeN)).1 = _
    rw [node_put hn0]
    unfold putOf
    rw [hmn]
    simp only
    rw [if_neg (by omega), if_pos (by decide), if_pos h6]
  · left
    have hty : typeW (putN k x vs) = (0, makeText (putL ts k [73]) g) := by
      unfold typeW
      rw [if_neg (by rw [cnt_put]; omega)]
      show nodeType 4 [73] k [] ([x].map typeN) = _
      rw [node_put hn0]
      unfold putOf
      rw [hmn]
      simp only
      rw [if_neg (by omega), if_pos (by decide), if_neg h6, Int.toNat_natCast]
    have hfp : makeFault (putL ts k [73]) g = 0 := by
      unfold makeFault
      have hts := text_small (make_method hm).1
      rw [if_neg (by rw [putL_len _ (by omega)]; omega), if_pos]
      refine ⟨List.all_eq_true.2 fun y hy => ?_, hts.2.2.2.2⟩
      unfold putL at hy
      rcases List.mem_append.1 hy with hy | hy
      · exact List.all_eq_true.1 hts.2.1 y (List.mem_of_mem_take hy)
      · rcases List.mem_cons.1 hy with rfl | hy
        · decide
        · exact List.all_eq_true.1 hts.2.1 y (List.mem_of_mem_drop hy)
    refine call_is (ts := putL ts k [73]) (g := g) (by rw [hty]) (by rw [hty]; exact method_make hfp) (by rw [putL_len _ (by omega), insAt_len _ (by omega), hl]) (bad_ins hl hb (by omega) c) ?_
    rw [told_one (y := x) rfl (by show ¬ (4 : Int) = 1; decide) (by show ¬ (4 : Int) = 3; decide), if_pos (by rfl)]
    show toldN x ((insAt az k (wrap32 c)).eraseIdx ((k : Int)).toNat) = _
    rw [Int.toNat_natCast, erase_ins _ (by omega), htd]
end
end Go.Proofs.YtikkhjcocmihlaaDoor.hands
