/- code.Decode: what it answers. Conditions: as code.Cut. -/
import Derived.Test.YtnhhaefoilhlhaaGreatDoorCut3
set_option linter.unusedSimpArgs false
set_option linter.unusedVariables false
namespace Go.Proofs.YtnhhaefoilhlhaaGreatDoor.txts
open Go.RowKit Go.Proofs.YtnhhaefoilhlhaaGreatDoor.lib Go.Proofs.YtnhhaefoilhlhaaGreatDoor.errs Go.Proofs.YtnhhaefoilhlhaaGreatDoor.names Go.Proofs.YtnhhaefoilhlhaaGreatDoor.descs Go.Proofs.YtnhhaefoilhlhaaGreatDoor.ins Go.Proofs.YtnhhaefoilhlhaaGreatDoor.nums Go.Proofs.YtnhhaefoilhlhaaGreatDoor.flows

/-- the instructions of bytes -/
def decB (b : List Int) : Option (List I) := match cutB b with
  | some (l, []) => some l
  | _ => none
def DecBy (w : World) (b : List Int) (e : Ending) (w' : World) : Prop := match decB b with
  | none => e = .returned (.tuple #[.slice none 0 0, .iface 36 (.int .i64 1)]) ∧ Below w.heap.size w w'
  | some l => ∃ v, e = .returned (.tuple #[v, .nilIface]) ∧ Out w w' 109 6 v l.length (cellsOf l)
theorem decBy_none {w w' : World} {b : List Int} (h : decB b = none) (hb : Below w.heap.size w w') : DecBy w b (.returned (.tuple #[.slice none 0 0, .iface 36 (.int .i64 1)])) w' := by
  unfold DecBy; rw [h]; exact ⟨rfl, hb⟩
theorem decBy_some {w w' : World} {b : List Int} {l : List I} {v : Value} (h : decB b = some l) (ho : Out w w' 109 6 v l.length (cellsOf l)) : DecBy w b (.returned (.tuple #[v, .nilIface])) w' := by
  unfold DecBy; rw [h]; exact ⟨v, rfl, ho⟩

end Go.Proofs.YtnhhaefoilhlhaaGreatDoor.txts

/- Bytes of code, decoded: the plain laws. No condition of the world. -/
set_option linter.unusedSimpArgs false
set_option linter.unusedVariables false
namespace Go.Proofs.YtnhhaefoilhlhaaGreatDoor.txts
open Go.RowKit Go.Proofs.YtnhhaefoilhlhaaGreatDoor.lib Go.Proofs.YtnhhaefoilhlhaaGreatDoor.errs Go.Proofs.YtnhhaefoilhlhaaGreatDoor.names Go.Proofs.YtnhhaefoilhlhaaGreatDoor.descs Go.Proofs.YtnhhaefoilhlhaaGreatDoor.ins Go.Proofs.YtnhhaefoilhlhaaGreatDoor.nums Go.Proofs.YtnhhaefoilhlhaaGreatDoor.flows

theorem encI_bytes (x : I) : ∀ z ∈ encI x, 0 ≤ z ∧ z ≤ 255 := by
  intro z hz
  unfold encI at hz
  rcases List.mem_cons.1 hz with rfl | hz
  · omega
  · obtain ⟨b, _, rfl⟩ := List.mem_map.1 hz
    have : b.toNat < 256 := b.toNat_lt
    omega
theorem enc_bytes (l : List I) (k : Nat) : ∀ z ∈ encTo l k, 0 ≤ z ∧ z ≤ 255 := by
  intro z hz
  unfold encTo at hz
  rcases List.mem_cons.1 hz with rfl | hz
  · omega
  · obtain ⟨x, _, hx⟩ := List.mem_flatMap.1 hz
    exact encI_bytes x z hx
theorem encI_len {x : I} (h : Good1 x) : (encI x).length ≤ 256 := by
  have := (text_tiny h.1 h.2.1 h.2.2).1
  unfold encI
  rw [List.length_cons, List.length_map]
  omega
theorem flat_enc_len : ∀ (l : List I), (∀ x ∈ l, Good1 x) → (l.flatMap encI).length ≤ 256 * l.length
  | [], _ => by simp
  | x :: l, h => by
    have h1 := flat_enc_len l fun y hy => h y (List.mem_cons_of_mem _ hy)
    have h2 := encI_len (h x (List.mem_cons_self ..))
    rw [List.flatMap_cons, List.length_append, List.length_cons]
    omega
theorem enc_small {l : List I} (h : codeErr l = 0) (hi : ∀ x ∈ l, InR x.a ∧ InR x.b) : (encTo l l.length).length ≤ 10241 := by
  obtain ⟨h40, hg⟩ := code_good h
  have := flat_enc_len l fun x hx => ⟨hg x hx, hi x hx⟩
  rw [enc_all h40, List.length_cons]
  omega
theorem enc_some (l : List I) (k : Nat) : 0 < (encTo l k).length := by unfold encTo; simp
theorem dec_enc {l : List I} (h : codeErr l = 0) (hi : ∀ x ∈ l, InR x.a ∧ InR x.b) : decB (encTo l l.length) = some l := by
  have := cut_enc h hi []
  rw [List.append_nil] at this
  unfold decB
  rw [this]
theorem dec_short {l : List I} (h : codeErr l = 0) (hi : ∀ x ∈ l, InR x.a ∧ InR x.b) : decB (encTo l l.length).dropLast = none := by
  unfold decB
  rw [cut_short h hi]
theorem dec_more {l : List I} (h : codeErr l = 0) (hi : ∀ x ∈ l, InR x.a ∧ InR x.b) (c : Int) : decB (encTo l l.length ++ [c]) = none := by
  unfold decB
  rw [cut_enc h hi [c]]
theorem dec_right {b : List Int} {l : List I} (h : decB b = some l) (hb : ∀ z ∈ b, 0 ≤ z ∧ z ≤ 255) (hl : b.length ≤ 10000000) :
    codeErr l = 0 ∧ b = encTo l l.length ∧ ∀ x ∈ l, Fine x := by
  unfold decB at h
  split at h
  · rename_i l' hc
    cases h
    obtain ⟨h1, h2, h3⟩ := cut_right hc hb hl
    rw [List.append_nil] at h2
    exact ⟨h1, h2, h3⟩
  · cases h
theorem right_short {l : List I} (h : codeErr l = 0) : l.length ≤ 40 := (code_good h).1
end Go.Proofs.YtnhhaefoilhlhaaGreatDoor.txts
