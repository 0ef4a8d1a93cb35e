/- ChainPasses, as plain Lean: any packets pass any hop as the document says. -/
import Derived.Test.YtgjmfljogaanfaaGreatPPas
import Derived.KernelRfl
namespace Go.Proofs.YtgjmfljogaanfaaGreat.Pure
open Go.Ev Go.RowKit

theorem works_vast : W.leatlaw50_works 100000000001 = some true := by kernel_rfl

theorem passW_PI {D : List Int} {h : H10} (hh : HOK h) (l : List Pk) (hl : l.length ≤ 99) (hi : InOK l) : PI l.length h (passW D h l (w0 h)) := by
  have hPI : ∀ i, i ≤ l.length → PI i h (passW D h (l.take i) (w0 h)) := by
    intro i
    induction i with
    | zero => intro _; exact PI0 hh
    | succ i ih =>
      intro hil
      rw [take_next (show i < l.length by omega), passW_snoc]
      exact putW_PI (by omega) (hi _ (getD_mem (by omega))) (ih (by omega))
  have := hPI l.length (Nat.le_refl _)
  rwa [List.take_length] at this

theorem passH_PI (D : List Int) (h : H10) (xs : List Pk) (hl : xs.length ≤ 99) : PI xs.length (limH h) (passH D h xs) := by
  have hll : (isort (xs.map cleanP)).length = xs.length := by rw [isort_length]; simp
  have := passW_PI (D := D) (limH_ok h) (isort (xs.map cleanP)) (by omega) (coming_in xs)
  rw [hll] at this
  exact restF_PI (by omega) _ _ this

theorem cut60 (xs : List Pk) : (cutL xs 0 (imn ((xs.length : Nat) : Int) 60)).length ≤ 60 := by
  simp only [cutL, imn_eq, List.length_drop, List.length_take]; omega

theorem one_getD {α : Type} (a d : α) : ([a] : List α).getD (0 : Int).toNat d = a := rfl

theorem ChainPasses_i (N : Nat) (hN : vast < N) (hw : W.leatlaw50_works N = some true) (a0 : H10 × List Int) (a1 : List Pk) (hd : ∀ d ∈ a0.2, 0 ≤ d ∧ d ≤ 4294967295) : W.leatlaw50_ChainPasses N a0 a1 = some true := by
  have hD := cutL_DOK hd
  have hN' := hN
  simp only [vast] at hN'
  have hx := cut60 a1
  have c1 : (0 : Int) ≤ imn ((a0.2.length : Nat) : Int) 50 := by rw [imn_eq]; omega
  have c2 : imn ((a0.2.length : Nat) : Int) 50 ≤ (a0.2.length : Int) := by rw [imn_eq]; omega
  have c3 : (0 : Int) ≤ imn ((a1.length : Nat) : Int) 60 := by rw [imn_eq]; omega
  have c4 : imn ((a1.length : Nat) : Int) 60 ≤ (a1.length : Int) := by rw [imn_eq]; omega
  have e1 := Pass_eq N hN hD a0.1 (cutL a1 0 (imn ((a1.length : Nat) : Int) 60)) (by omega)
  have e2 := ref_Pass_eq N hN hD a0.1 (cutL a1 0 (imn ((a1.length : Nat) : Int) 60)) (by omega)
  have I := (passH_PI (cutL a0.2 0 (imn ((a0.2.length : Nat) : Int) 50)) a0.1 (cutL a1 0 (imn ((a1.length : Nat) : Int) 60)) (by omega)).cnt
  have s1 := Same_refl N (passH (cutL a0.2 0 (imn ((a0.2.length : Nat) : Int) 50)) a0.1 (cutL a1 0 (imn ((a1.length : Nat) : Int) 60))).out (by omega) (by omega)
  have s2 := Same_refl N (passH (cutL a0.2 0 (imn ((a0.2.length : Nat) : Int) 50)) a0.1 (cutL a1 0 (imn ((a1.length : Nat) : Int) 60))).lost (by omega) (by omega)
  have c5 : (1 * 104 ≤ 140737488355328) := by omega
  simp only [W.leatlaw50_ChainPasses, one_getD, c1, c2, c3, c4, c5, decide_true, Bool.and_self, cond_true, e1, e2, Option.bind_some, chain_Limit_eq, ref50_Limit_eq, s1, s2, BEq.rfl, Bool.and_true, hw]

theorem u32_range {x : Int} (h : SK.wf (.int .u32) x) : 0 ≤ x ∧ x ≤ 4294967295 := h

theorem ChainPasses (x : RT [.aggs [.int .i64, .int .i64, .int .i64, .int .i64, .int .i64, .int .i64, .int .i64, .int .i64, .int .i64, .int .i64] 120 [.int .u32], .row 38 [.int .i64, .int .i64, .int .i64, .int .i64, .int .i64]]) (h : RT.wf _ x) : ∃ N, uncR [.aggs [.int .i64, .int .i64, .int .i64, .int .i64, .int .i64, .int .i64, .int .i64, .int .i64, .int .i64, .int .i64] 120 [.int .u32], .row 38 [.int .i64, .int .i64, .int .i64, .int .i64, .int .i64]] (W.leatlaw50_ChainPasses N) x = some true :=
  ⟨100000000001, ChainPasses_i 100000000001 (by simp only [vast]; omega) works_vast x.1 x.2 fun d hd => u32_range (h.1.2.2 d hd)⟩

end Go.Proofs.YtgjmfljogaanfaaGreat.Pure
