/- ChainPasses, as plain Lean: any packets pass any hop as the document says. -/
import Derived.Test.YtgjmfljogaanfaaGreatPPas
import Derived.KernelRfl
namespace Go.Proofs.YtgjmfljogaanfaaGreat.Pure
open Go.Ev Go.RowKit

theorem works_vast : W.leatlaw50_works 100000000001 = some true := by kernel_rfl

theorem passW_PI {D : List Int} {h : H10} (hh : HOK h) (l : List Pk) (hl : l.length ≤ 99) (hi : InOK l) : PI l.length h (passW D h l (w0 h)) := by
  have hPI : ∀ i, i ≤ l.length → PI i h (passW D h (l.take i) (w0 h)) := by
    intro i
    induction i with
    | zero => intro _; exact PI0 hh
    | succ i ih =>
      intro hil
      rw [take_next (show i < l.length by omega), passW_snoc]
      exact putW_PI (by omega) (hi _ (getD_mem (by omega))) (ih (by omega))
  have := hPI l.length (Nat.le_refl _)
  rwa [List.take_length] at this

theorem passH_PI (D : List Int) (h : H10) (xs : List Pk) (hl : xs.length ≤ 99) : PI xs.length (limH h) (passH D h xs) := by
  have hll : (isort (xs.map cleanP)).length = xs.length := by rw [isort_length]; simp
  have := passW_PI (D := D) (limH_ok h) (isort (xs.map cleanP)) (by omega) (coming_in xs)
  rw [hll] at this
  exact restF_PI (by omega) _ _ this

theorem cut60 (xs : List Pk) : (cutL xs 0 (imn ((xs.length : Nat) : Int) 60)).length ≤ 60 := by
  simp only [cutL, imn_eq, List.length_drop, List.length_take]; omega

theorem one_getD {α : Type} (a d : α) : ([a] : List α).getD (0 : Int).toNat d = a := rfl

theorem u32_range {x : Int} (h : SK.wf (.int .u32) x) : 0 ≤ x ∧ x ≤ 4294967295 := h

end Go.Proofs.YtgjmfljogaanfaaGreat.Pure
