/- A function that hands over something new: what it holds, as data. -/
import Derived.Test.YtjdjfchhbocncaaGreatAiL
import Derived.Test.YtjdjfchhbocncaaGreatAiQ
namespace Go.AI
set_option linter.unusedVariables false

theorem SpecO.freeze {P : Program} {f : Nat} {So : List AV → List AObj → Option (AV × List AObj)} {S : List AV → Option AV} (h : SpecO P f So)
    (hs : ∀ args r, S args = some r → closedL args = true ∧ ∃ r' ob', So args [] = some (r', ob') ∧ frz ob' r' = r ∧ r.closed = true) : SpecOk P f S := by
  intro args r hS
  obtain ⟨h1, r', ob', h2, h3, h4⟩ := hs args r hS
  obtain ⟨h5, h6⟩ := h args [] r' ob' h2
  refine ⟨h5, fun i hi => closed_get h1 hi, ?_⟩
  intro Am w cargs hAm hsz hrel
  let F : Fr := ⟨0, [], Am, fun _ => False, w, [], fun _ => none⟩
  have hW : ∀ b, Wrt F (fun _ => none) [] b ↔ Am b := fun b => ⟨fun h => h.elim id fun ⟨_, _, _, h, _⟩ => (by simp at h), Or.inl⟩
  have hH : RelH F (fun _ => none) [] w := ⟨fun id o h => by simp at h, fun id id' o o' b δ δ' h => by simp at h, fun id o b δ h => by simp at h, hAm, Frm.refl _ _, Ext.refl _ _⟩
  refine (h6 F (fun _ => none) w cargs rfl rfl rfl hH hsz fun i hi => (hrel i hi).stay (Frm.refl _ _) (fun b _ hn hw => hn ((hW b).1 hw)) (Ext.refl _ _)).mono ?_
  rintro e w' ⟨v, ρ', rfl, g1, g2⟩
  subst h3
  exact ⟨v, rfl, frz_ok g1 g2 h4, g1.frm⟩
end Go.AI
