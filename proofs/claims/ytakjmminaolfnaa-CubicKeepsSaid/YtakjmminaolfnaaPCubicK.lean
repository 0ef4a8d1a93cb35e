/- Cubic windows: what holds of growing and of cutting; the law. -/
import Derived.Test.YtakjmminaolfnaaPCubicH
namespace Go.Proofs.Ytakjmminaolfnaa.Pure
open Go.Ev Go.RowKit

theorem clMono {a b : Int} (lo hi : Int) (h : a ≤ b) : cl a lo hi ≤ cl b lo hi := by simp only [cl]; omega

theorem clIn {a lo hi : Int} (h : lo ≤ hi) : lo ≤ cl a lo hi ∧ cl a lo hi ≤ hi := by simp only [cl]; omega

theorem cdis_mono {v : CS} {a b : Int} (m : Int) (h : a ≤ b) : cdis v a m ≤ cdis v b m := by
  have h1 : cl a 0 1125899906842624 ≤ cl b 0 1125899906842624 := clMono _ _ h
  have hb := clIn (a := b) (show (0 : Int) ≤ 1125899906842624 by omega)
  simp only [cdis]
  apply clMono
  generalize cl a 0 1125899906842624 = x at *
  generalize cl b 0 1125899906842624 = y at *
  split <;> split <;> omega

theorem cdis_in (v : CS) (a m : Int) : -1048576 ≤ cdis v a m ∧ cdis v a m ≤ 1048576 := by
  simp only [cdis]; exact clIn (by omega)

/-- The cube with its sign. -/
theorem cube_mono {d e : Int} (m : Int) (h : d ≤ e) (hd : -1048576 ≤ d) (he : e ≤ 1048576) (p : Int) :
    (if d < 0 then p - cubeOf d m else p + cubeOf d m) ≤ (if e < 0 then p - cubeOf e m else p + cubeOf e m) := by
  have hz := csz_in m
  have c1 := cubeOf_in (d := d) m ⟨by omega, by omega⟩
  have c2 := cubeOf_in (d := e) m ⟨by omega, by omega⟩
  have key : ∀ x y : Int, 0 ≤ x → x ≤ y → x * x * x * csz m / 2500000000 ≤ y * y * y * csz m / 2500000000 := fun x y h0 h1 =>
    Int.ediv_le_ediv (by omega) (Int.mul_le_mul_of_nonneg_right (cube_le h0 h1) (by omega))
  by_cases h1 : d < 0
  · by_cases h2 : e < 0
    · have k := key (-e) (-d) (by omega) (by omega)
      simp only [cubeOf] at *
      rw [if_pos h1] at c1 ⊢
      rw [if_pos h2] at c2 ⊢
      rw [if_pos h1, if_pos h2]
      omega
    · rw [if_pos h1, if_neg h2]; omega
  · have h2 : ¬ e < 0 := by omega
    have k := key d e (by omega) h
    simp only [cubeOf] at *
    rw [if_neg h1] at c1 ⊢
    rw [if_neg h2] at c2 ⊢
    rw [if_neg h1, if_neg h2]
    omega

theorem ctgt_mono {a b : Int} (s : CS) (m : Int) (h : a ≤ b) : ctgt s a m ≤ ctgt s b m := by
  simp only [ctgt]
  apply clMono
  exact cube_mono m (cdis_mono m h) (cdis_in (cwi s m) a m).1 (cdis_in (cwi s m) b m).2 _

theorem cgo_in {v : CS} {c l now m p e o : Int} (hc : 1 ≤ c ∧ c ≤ 1073741824) (hl : 1 ≤ l ∧ l ≤ 16777216) (hk : 0 ≤ v.2.2.2.2.2 ∧ v.2.2.2.2.2 ≤ 1073741824) : c ≤ (cgo v c l now m p e o).1 ∧ (cgo v c l now m p e o).1 ≤ c + l := by
  have hz := csz_in m
  have hT := ctgt_in (c, v.2.1, p, e, o, v.2.2.2.2.2) now m
  have hm := more_in hc ⟨by omega, hl.2⟩ (show 1 ≤ ctgt (c, v.2.1, p, e, o, v.2.2.2.2.2) now m ∧ _ from ⟨by omega, hT.2⟩) hz
  simp only [cgo]
  generalize ctgt (c, v.2.1, p, e, o, v.2.2.2.2.2) now m = T at *
  by_cases h : c < T
  · have g := hm.1 h
    rw [if_pos h]; omega
  · have g := hm.2
    rw [if_neg h]; omega

theorem chear_in {s : CS} {a now m : Int} (h : CI s m) (ha : 0 ≤ a ∧ a ≤ 16777216) : s.1 ≤ (chear s a now m).1 ∧ (chear s a now m).1 ≤ s.1 + a := by
  have hf := fast_in a h
  have hz := csz_in m
  have hc := h.c
  have ea : cl a 0 16777216 = a := cl_id ha
  simp only [chear, cwi_id h]
  rw [ea] at hf ⊢
  have hfa : (if s.1 < s.2.1 then min a (s.2.1 - s.1) else 0) ≤ a := by omega
  generalize (if s.1 < s.2.1 then min a (s.2.1 - s.1) else 0) = f at *
  simp only [crest]
  split
  · simp only; omega
  · split
    · have := cgo_in (v := s) (c := s.1 + f) (l := a - f) (now := now) (m := m) (p := max s.2.2.1 (s.1 + f)) (e := cl now 0 1125899906842624) (o := s.1 + f) ⟨hf.1, hf.2.1⟩ ⟨by omega, hf.2.2.2.1⟩ h.k
      omega
    · have := cgo_in (v := s) (c := s.1 + f) (l := a - f) (now := now) (m := m) (p := s.2.2.1) (e := s.2.2.2.1) (o := s.2.2.2.2.1) ⟨hf.1, hf.2.1⟩ ⟨by omega, hf.2.2.2.1⟩ h.k
      omega

theorem ccut_in {s : CS} {m : Int} (h : CI s m) : (ccut s m).1 ≤ s.1 ∧ 0 < (ccut s m).1 := by
  have hz := csz_in m
  have hc := h.c
  simp only [ccut, cwi_id h]; omega

theorem CubicKeeps_i (N : Nat) (hN : 2000 < N) (s : CS) (l m a b n : Int) : W.leatlaw49_CubicKeeps N s (l, m) (a, (b, n)) = some true := by
  have e1 : (imn (imx l 0) 16777216) = cl l 0 16777216 := by simp only [imn_eq, imx_eq, cl]; omega
  have e2 : (imn a b) = min a b := imn_eq _ _
  have e3 : (imx a b) = max a b := imx_eq _ _
  have e4 : (imn (imx n 0) 1152921504606846976) = cl n 0 1152921504606846976 := by simp only [imn_eq, imx_eq, cl]; omega
  have hl : 0 ≤ cl l 0 16777216 ∧ cl l 0 16777216 ≤ 16777216 := clIn (by omega)
  have hn : 0 ≤ cl n 0 1152921504606846976 ∧ cl n 0 1152921504606846976 ≤ 1152921504606846976 := clIn (by omega)
  have hv := cwi_in s m
  have hh := chear_in (now := a) hv hl
  have hc := ccut_in hv
  have hz := csz_in m
  have hvc := hv.c
  have hI : I64 (cl n 0 1152921504606846976) := ⟨by omega, by omega⟩
  obtain ⟨r0, r1, _, r2⟩ := croot_is hI
  have r2 := r2 hn.1
  have ht := ctgt_in (cwi s m) (min a b) m
  have hm := ctgt_mono (cwi s m) m (show min a b ≤ max a b by omega)
  simp only [W.leatlaw49_CubicKeeps, leatref49_Within_eq, e1, e2, e3, e4, cubic_Hear_eq N _ _ _ _ hN, cubic_Cut_eq, cubic_Target_eq N _ _ _ hN, cubic_Root_c N hI hN, leatref49_Size_eq, leatlaw49_works_eq N hN, Option.bind_some]
  generalize croot (cl n 0 1152921504606846976) = r at *
  have hrs : r ≤ 1048576 := by
    apply Int.not_lt.1
    intro hlt
    have := cube_le (a := 1048577) (b := r) (by omega) (by omega)
    omega
  have q1 := sq_small (a := r) ⟨by omega, by omega⟩
  have q2 := sq_small (a := r + 1) ⟨by omega, by omega⟩
  have q3 := cube_le (a := r + 1) (b := 1048577) (by omega) (by omega)
  have q4 := Int.mul_nonneg q2.1 (show 0 ≤ r + 1 by omega)
  have q5 := Int.mul_nonneg q1.1 r0
  rw [wrapI64 (x := (chear (cwi s m) (cl l 0 16777216) a m).1 - (cwi s m).1) (by omega) (by omega), wrapI64 (x := r * r) (by omega) (by omega), wrapI64 (x := r * r * r) (by omega) (by omega), wrapI64 (x := r + 1) (by omega) (by omega), wrapI64 (x := (r + 1) * (r + 1)) (by omega) (by omega), wrapI64 (x := (r + 1) * (r + 1) * (r + 1)) (by omega) (by omega)]
  rw [decide_eq_true hh.1, decide_eq_true (show (chear (cwi s m) (cl l 0 16777216) a m).1 - (cwi s m).1 ≤ cl l 0 16777216 by omega), decide_eq_true hc.1, decide_eq_true hc.2, decide_eq_true hm, decide_eq_true ht.1, decide_eq_true r2.1, decide_eq_true r2.2]
  rfl

theorem CubicKeeps (x : RT [.agg [.int .i64, .int .i64, .int .i64, .int .i64, .int .i64, .int .i64], .agg [.int .i64, .int .i64], .agg [.int .i64, .int .i64, .int .i64]]) (_ : RT.wf _ x) : ∃ N, uncR [.agg [.int .i64, .int .i64, .int .i64, .int .i64, .int .i64, .int .i64], .agg [.int .i64, .int .i64], .agg [.int .i64, .int .i64, .int .i64]] (W.leatlaw49_CubicKeeps N) x = some true := by
  obtain ⟨s, ⟨l, m⟩, a, b, n⟩ := x
  exact ⟨3000, CubicKeeps_i 3000 (by omega) s l m a b n⟩

end Go.Proofs.Ytakjmminaolfnaa.Pure
