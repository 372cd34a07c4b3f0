/- ZED, twenty-fifth text: small rules for the printed proofs. -/
import Derived.Test.YtakamchmiakicaaDoorZedX
namespace Zed
open Go
set_option linter.unusedVariables false
set_option linter.unusedSimpArgs false

theorem ifS {α : Type} {c : Prop} [Decidable c] {t : Option α} {r : α} (h : (if c then t else none) = some r) : c ∧ t = some r := by
  by_cases hc : c
  · rw [if_pos hc] at h; exact ⟨hc, h⟩
  · rw [if_neg hc] at h; cases h
theorem iteS {α : Type} {b : Bool} {t e : Option α} {r : α} (h : (if b = true then t else e) = some r) : (b = true ∧ t = some r) ∨ (b = false ∧ e = some r) := by
  cases b
  · exact .inr ⟨rfl, by simpa using h⟩
  · exact .inl ⟨rfl, by simpa using h⟩
theorem bindS {α β : Type} {o : Option α} {f : α → Option β} {r : β} (h : o.bind f = some r) : ∃ x, o = some x ∧ f x = some r := obind h
end Zed
