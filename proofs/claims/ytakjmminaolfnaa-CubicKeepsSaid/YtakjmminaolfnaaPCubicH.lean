/- Cubic windows: where they should be, and how they grow; the laws of both. -/
import Derived.Test.YtakjmminaolfnaaPCubic
namespace Go.Proofs.Ytakjmminaolfnaa.Pure
open Go.Ev Go.RowKit

theorem cwait_csz (t c m : Int) : cwait t c (csz m) = cwait t c m := by simp only [cwait, csz_csz]

def cubeOf (d m : Int) : Int := (if d < 0 then -d else d) * (if d < 0 then -d else d) * (if d < 0 then -d else d) * csz m / 2500000000

/-- By how much a window's place is off its top. -/
noncomputable def cdis (v : CS) (now m : Int) : Int :=
  cl ((if 0 ≤ v.2.2.2.1 ∧ v.2.2.2.1 < cl now 0 1125899906842624 then (cl now 0 1125899906842624 - v.2.2.2.1) / 1000 else 0) - cwait v.2.2.1 v.2.2.2.2.1 m) (-1048576) 1048576

noncomputable def ctgt (s : CS) (now m : Int) : Int :=
  let v := cwi s m
  let d := cdis v now m
  cl (if d < 0 then v.2.2.1 - cubeOf d m else v.2.2.1 + cubeOf d m) (csz m) 1073741824

theorem cubes {a : Int} (h : 0 ≤ a ∧ a ≤ 1048576) : 0 ≤ a * a ∧ a * a ≤ 1099511627776 ∧ 0 ≤ a * a * a ∧ a * a * a ≤ 1152921504606846976 := by
  have m := Int.mul_le_mul h.2 h.2 h.1 (by omega : (0 : Int) ≤ 1048576)
  have n := Int.mul_nonneg h.1 h.1
  have m2 := Int.mul_le_mul (show a * a ≤ 1099511627776 by omega) h.2 h.1 (by omega : (0 : Int) ≤ 1099511627776)
  have n2 := Int.mul_nonneg n h.1
  omega

theorem cubeOf_in {d : Int} (m : Int) (h : -1048576 ≤ d ∧ d ≤ 1048576) : 0 ≤ cubeOf d m ∧ cubeOf d m ≤ 35000000000000 := by
  have hz := csz_in m
  have c := cubes (a := if d < 0 then -d else d) (by split <;> omega)
  simp only [cubeOf]
  generalize (if d < 0 then -d else d) * (if d < 0 then -d else d) * (if d < 0 then -d else d) = q at *
  have m1 := Int.mul_le_mul c.2.2.2 hz.2 (by omega) (by omega : (0 : Int) ≤ 1152921504606846976)
  have n1 := Int.mul_nonneg c.2.2.1 (show 0 ≤ csz m by omega)
  generalize q * csz m = p at *
  omega

theorem cube_mdv {d : Int} (m : Int) (h : -1048576 ≤ d ∧ d ≤ 1048576) :
    mdv ((if d < 0 then -d else d) * (if d < 0 then -d else d) * (if d < 0 then -d else d)) (csz m) 2500000000 false = (cubeOf d m, 0) := by
  have hz := csz_in m
  have c := cubes (a := if d < 0 then -d else d) (by split <;> omega)
  have hc := cubeOf_in m h
  simp only [mdv, Bool.false_eq_true, false_and, if_false]
  rw [if_neg (by omega)]
  simp only [cubeOf] at hc ⊢
  rw [if_neg (by omega)]

theorem cubic_Target_eq (N : Nat) (s : CS) (now m : Int) (hN : 2000 < N) : W.cubic_Target N s now m = some (ctgt s now m) := by
  have hz := csz_in m
  have hv := cwi_in s m
  have hp := hv.p; have ho := hv.o; have he := hv.e
  have ht : 0 ≤ cl now 0 1125899906842624 ∧ cl now 0 1125899906842624 ≤ 1125899906842624 := by simp only [cl]; omega
  have hw := cwait_in (cwi s m).2.2.1 (cwi s m).2.2.2.2.1 m
  -- behind the time
  have j1 : ∀ D : Int, 0 ≤ D → D ≤ 1125899906842624 → W.cubic_Target_j1 N (cwi s m) (csz m) D = some (cl (if cl (D - cwait (cwi s m).2.2.1 (cwi s m).2.2.2.2.1 m) (-1048576) 1048576 < 0 then (cwi s m).2.2.1 - cubeOf (cl (D - cwait (cwi s m).2.2.1 (cwi s m).2.2.2.2.1 m) (-1048576) 1048576) m else (cwi s m).2.2.1 + cubeOf (cl (D - cwait (cwi s m).2.2.1 (cwi s m).2.2.2.2.1 m) (-1048576) 1048576) m) (csz m) 1073741824) := by
    intro D h0 h1
    simp only [W.cubic_Target_j1]
    rw [cubic_Wait_eq N (csz m) ⟨by omega, by omega⟩ ⟨by omega, by omega⟩ hN, cwait_csz, Option.bind_some, wrapI64 (x := D - _) (by omega) (by omega), sat_Clamp_eq, Option.bind_some]
    generalize hd : cl (D - cwait (cwi s m).2.2.1 (cwi s m).2.2.2.2.1 m) (-1048576) 1048576 = d at *
    have hdr : -1048576 ≤ d ∧ d ≤ 1048576 := by rw [← hd]; simp only [cl]; omega
    have c := cubes (a := if d < 0 then -d else d) (by split <;> omega)
    have e2 : d * d = (if d < 0 then -d else d) * (if d < 0 then -d else d) := by split <;> simp [Int.neg_mul, Int.mul_neg]
    have e3 : (if d * d * d < 0 then -(d * d * d) else d * d * d) = (if d < 0 then -d else d) * (if d < 0 then -d else d) * (if d < 0 then -d else d) := by
      by_cases h : d < 0
      · rw [if_pos h] at c
        have e : -d * -d * -d = -(d * d * d) := by simp [Int.neg_mul, Int.mul_neg]
        rw [if_pos h, e]
        rw [e] at c
        by_cases hh : d * d * d < 0
        · rw [if_pos hh]
        · rw [if_neg hh]; omega
      · rw [if_neg h] at c ⊢
        rw [if_neg (by omega)]
    have hI : I64 (d * d * d) := by
      have := c.2.2
      rw [← e3] at this
      by_cases hh : d * d * d < 0
      · rw [if_pos hh] at this; exact ⟨by omega, by omega⟩
      · rw [if_neg hh] at this; exact ⟨by omega, by omega⟩
    rw [wrapI64 (x := d * d) (by omega) (by omega), wrapI64 (x := d * d * d) hI.1 hI.2, sat_Abs_eq N hI, Option.bind_some, e3]
    rw [show min ((if d < 0 then -d else d) * (if d < 0 then -d else d) * (if d < 0 then -d else d)) 9223372036854775807 = (if d < 0 then -d else d) * (if d < 0 then -d else d) * (if d < 0 then -d else d) by omega]
    rw [wide_MulDiv_eq N ⟨by omega, by omega⟩ ⟨by omega, by omega⟩ by_I hN, cube_mdv m hdr, Option.bind_some]
    have hc := cubeOf_in m hdr
    simp only [W.cubic_Target_j2, show ((0 : Int) == 0) = true from rfl, Bool.not_true, cond_false, bifd]
    rw [wrapI64 (x := 0 - cubeOf d m) (by omega) (by omega)]
    split
    · rw [sat_Add_eq N ⟨by omega, by omega⟩ ⟨by omega, by omega⟩, Option.bind_some, sat_Clamp_eq, Option.bind_some]
      congr 2
      simp only [sadd, cl]; omega
    · rw [sat_Add_eq N ⟨by omega, by omega⟩ ⟨by omega, by omega⟩, Option.bind_some, sat_Clamp_eq, Option.bind_some]
      congr 2
      simp only [sadd, cl]; omega
  simp only [W.cubic_Target, cubic_within_eq, cubic_size_eq, sat_Clamp_eq, Option.bind_some, ctgt]
  by_cases h1 : 0 ≤ (cwi s m).2.2.2.1
  · rw [decide_eq_true h1]
    by_cases h2 : (cwi s m).2.2.2.1 < cl now 0 1125899906842624
    · rw [bift h2, wrapI64 (x := cl now 0 1125899906842624 - _) (by omega) (by omega), tdiv_nn (by omega), wrapI64 (by omega) (by omega), j1 _ (by omega) (by omega), ← (show cdis (cwi s m) now m = cl ((cl now 0 1125899906842624 - (cwi s m).2.2.2.1) / 1000 - cwait (cwi s m).2.2.1 (cwi s m).2.2.2.2.1 m) (-1048576) 1048576 by simp only [cdis]; rw [if_pos ⟨h1, h2⟩])]
      rfl
    · rw [biff h2, j1 0 (by omega) (by omega), ← (show cdis (cwi s m) now m = cl (0 - cwait (cwi s m).2.2.1 (cwi s m).2.2.2.2.1 m) (-1048576) 1048576 by simp only [cdis]; rw [if_neg (fun h => h2 h.2)])]
      rfl
  · rw [decide_eq_false h1, j1 0 (by omega) (by omega), ← (show cdis (cwi s m) now m = cl (0 - cwait (cwi s m).2.2.1 (cwi s m).2.2.2.2.1 m) (-1048576) 1048576 by simp only [cdis]; rw [if_neg (fun h => h1 h.1)])]
    rfl

theorem leatref49_Target_eq (N : Nat) (s : CS) (now m : Int) (hN : 3000000 < N) : W.leatref49_Target N s now m = some (ctgt s now m) := by
  have hz := csz_in m
  have hv := cwi_in s m
  have hp := hv.p; have ho := hv.o; have he := hv.e
  have ht : 0 ≤ cl now 0 1125899906842624 ∧ cl now 0 1125899906842624 ≤ 1125899906842624 := by simp only [cl]; omega
  have hw := cwait_in (cwi s m).2.2.1 (cwi s m).2.2.2.2.1 m
  have j1 : ∀ D : Int, 0 ≤ D → D ≤ 1125899906842624 → W.leatref49_Target_j1 N m (cwi s m) D = some (cl (if cl (D - cwait (cwi s m).2.2.1 (cwi s m).2.2.2.2.1 m) (-1048576) 1048576 < 0 then (cwi s m).2.2.1 - cubeOf (cl (D - cwait (cwi s m).2.2.1 (cwi s m).2.2.2.2.1 m) (-1048576) 1048576) m else (cwi s m).2.2.1 + cubeOf (cl (D - cwait (cwi s m).2.2.1 (cwi s m).2.2.2.2.1 m) (-1048576) 1048576) m) (csz m) 1073741824) := by
    intro D h0 h1
    simp only [W.leatref49_Target_j1]
    rw [leatref49_Wait_eq N m ⟨by omega, by omega⟩ ⟨by omega, by omega⟩ hN, Option.bind_some, wrapI64 (x := D - _) (by omega) (by omega), leatref49_keep_eq N (by omega), Option.bind_some]
    generalize hd : cl (D - cwait (cwi s m).2.2.1 (cwi s m).2.2.2.2.1 m) (-1048576) 1048576 = d at *
    have hdr : -1048576 ≤ d ∧ d ≤ 1048576 := by rw [← hd]; simp only [cl]; omega
    have c := cubes (a := if d < 0 then -d else d) (by split <;> omega)
    have hc := cubeOf_in m hdr
    have j2 : ∀ x : Int, x = (if d < 0 then -d else d) → W.leatref49_Target_j2 N m (cwi s m) d x = some (cl (if d < 0 then (cwi s m).2.2.1 - cubeOf d m else (cwi s m).2.2.1 + cubeOf d m) (csz m) 1073741824) := by
      rintro x rfl
      simp only [W.leatref49_Target_j2, leatref49_Size_eq, Option.bind_some]
      rw [wrapI64 (x := (if d < 0 then -d else d) * (if d < 0 then -d else d)) (by omega) (by omega), wrapI64 (x := (if d < 0 then -d else d) * (if d < 0 then -d else d) * (if d < 0 then -d else d)) (by omega) (by omega),
        leatref02_MulDiv_eq N ⟨by omega, by omega⟩ ⟨by omega, by omega⟩ by_I false (by omega), cube_mdv m hdr, Option.bind_some, bifd]
      rw [wrapI64 (x := (cwi s m).2.2.1 - cubeOf d m) (by omega) (by omega), wrapI64 (x := (cwi s m).2.2.1 + cubeOf d m) (by omega) (by omega), leatref49_keep_eq N (by omega), leatref49_keep_eq N (by omega)]
      split <;> rfl
    rw [bifd, wrapI64 (x := 0 - d) (by omega) (by omega)]
    split
    · rename_i h; exact (j2 (0 - d) (by rw [if_pos h]; omega)).trans (by rw [if_pos h])
    · rename_i h; exact (j2 d (by rw [if_neg h])).trans (by rw [if_neg h])
  simp only [W.leatref49_Target, leatref49_Within_eq, leatref49_keep_eq N (show (0 : Int) ≤ 1125899906842624 by omega), Option.bind_some, ctgt]
  by_cases h1 : 0 ≤ (cwi s m).2.2.2.1
  · rw [decide_eq_true h1]
    by_cases h2 : (cwi s m).2.2.2.1 < cl now 0 1125899906842624
    · rw [bift h2, wrapI64 (x := cl now 0 1125899906842624 - _) (by omega) (by omega), tdiv_nn (by omega), wrapI64 (by omega) (by omega), j1 _ (by omega) (by omega), ← (show cdis (cwi s m) now m = cl ((cl now 0 1125899906842624 - (cwi s m).2.2.2.1) / 1000 - cwait (cwi s m).2.2.1 (cwi s m).2.2.2.2.1 m) (-1048576) 1048576 by simp only [cdis]; rw [if_pos ⟨h1, h2⟩])]
      rfl
    · rw [biff h2, j1 0 (by omega) (by omega), ← (show cdis (cwi s m) now m = cl (0 - cwait (cwi s m).2.2.1 (cwi s m).2.2.2.2.1 m) (-1048576) 1048576 by simp only [cdis]; rw [if_neg (fun h => h2 h.2)])]
      rfl
  · rw [decide_eq_false h1, j1 0 (by omega) (by omega), ← (show cdis (cwi s m) now m = cl (0 - cwait (cwi s m).2.2.1 (cwi s m).2.2.2.2.1 m) (-1048576) 1048576 by simp only [cdis]; rw [if_neg (fun h => h1 h.1)])]
    rfl

theorem ctgt_in (s : CS) (now m : Int) : csz m ≤ ctgt s now m ∧ ctgt s now m ≤ 1073741824 := by
  have hz := csz_in m
  simp only [ctgt]
  exact cl_in' (by omega)
where cl_in' {a lo hi : Int} (h : lo ≤ hi) : lo ≤ cl a lo hi ∧ cl a lo hi ≤ hi := by simp only [cl]; omega

theorem ctgt_csz (s : CS) (now m : Int) : ctgt s now (csz m) = ctgt s now m := by
  have e1 : ∀ v, cdis v now (csz m) = cdis v now m := fun v => by simp only [cdis, cwait_csz]
  have e2 : ∀ d, cubeOf d (csz m) = cubeOf d m := fun d => by simp only [cubeOf, csz_csz]
  simp only [ctgt, cwi_csz, e1, e2, csz_csz]

/-- The growth behind what was acknowledged: of c bytes, l left. -/
noncomputable def cgo (v : CS) (c l now m p e o : Int) : CS :=
  let T := ctgt (c, v.2.1, p, e, o, v.2.2.2.2.2) now m
  let k := min (v.2.2.2.2.2 + (if c < T then (T - c) * l / c else l * csz m / (100 * c))) 1073741824
  let up := min (min k ((l + 1) / 2)) (1073741824 - c)
  (c + up, v.2.1, p, e, o, k - up)

noncomputable def crest (v : CS) (c l now m : Int) : CS :=
  if l = 0 then (c, v.2) else if v.2.2.2.1 < 0 then cgo v c l now m (max v.2.2.1 c) (cl now 0 1125899906842624) c else cgo v c l now m v.2.2.1 v.2.2.2.1 v.2.2.2.2.1

noncomputable def chear (s : CS) (acked now m : Int) : CS :=
  let v := cwi s m
  let a := cl acked 0 16777216
  let fast := if v.1 < v.2.1 then min a (v.2.1 - v.1) else 0
  crest v (v.1 + fast) (a - fast) now m

/-- What is said of both ways of growing. -/
theorem more_in {c l T z : Int} (hc : 1 ≤ c ∧ c ≤ 1073741824) (hl : 0 ≤ l ∧ l ≤ 16777216) (hT : 1 ≤ T ∧ T ≤ 1073741824) (hz : 1 ≤ z ∧ z ≤ 65536) :
    (c < T → 0 ≤ (T - c) * l ∧ (T - c) * l ≤ 18014398509481984 ∧ 0 ≤ (T - c) * l / c ∧ (T - c) * l / c ≤ 18014398509481984) ∧ (0 ≤ l * z ∧ l * z ≤ 1099511627776 ∧ 0 ≤ l * z / (100 * c) ∧ l * z / (100 * c) ≤ 1099511627776) := by
  constructor
  · intro h
    have m := Int.mul_le_mul (show T - c ≤ 1073741824 by omega) hl.2 hl.1 (by omega : (0 : Int) ≤ 1073741824)
    have n := Int.mul_nonneg (show 0 ≤ T - c by omega) hl.1
    have q0 := Int.ediv_nonneg n (show 0 ≤ c by omega)
    have q1 := Int.ediv_le_self c n
    omega
  · have m := Int.mul_le_mul hl.2 hz.2 (by omega) (by omega : (0 : Int) ≤ 16777216)
    have n := Int.mul_nonneg hl.1 (show 0 ≤ z by omega)
    have q0 := Int.ediv_nonneg n (show 0 ≤ 100 * c by omega)
    have q1 := Int.ediv_le_self (100 * c) n
    omega

theorem cubic_j3 (N : Nat) {l c p e o more : Int} {v : CS} (hc : 1 ≤ c ∧ c ≤ 1073741824) (hl : 0 ≤ l ∧ l ≤ 16777216) (hk : 0 ≤ v.2.2.2.2.2 ∧ v.2.2.2.2.2 ≤ 1073741824) (hm : 0 ≤ more ∧ more ≤ 18014398509481984) :
    W.cubic_Hear_j3 N l c p e o v more = some (c + min (min (min (v.2.2.2.2.2 + more) 1073741824) ((l + 1) / 2)) (1073741824 - c), v.2.1, p, e, o, min (v.2.2.2.2.2 + more) 1073741824 - min (min (min (v.2.2.2.2.2 + more) 1073741824) ((l + 1) / 2)) (1073741824 - c)) := by
  have es : sadd v.2.2.2.2.2 more = v.2.2.2.2.2 + more := by simp only [sadd, cl]; omega
  simp only [W.cubic_Hear_j3, imn_eq]
  rw [sat_Add_eq N ⟨by omega, by omega⟩ ⟨by omega, by omega⟩, Option.bind_some, es, wrapI64 (x := l + 1) (by omega) (by omega), tdiv_nn (by omega), wrapI64 (x := (l + 1) / 2) (by omega) (by omega), wrapI64 (x := 1073741824 - c) (by omega) (by omega)]
  rw [wrapI64 (x := c + _) (by omega) (by omega), wrapI64 (x := min (v.2.2.2.2.2 + more) 1073741824 - _) (by omega) (by omega)]

theorem cubic_j2 (N : Nat) {l c p e o now m : Int} {v : CS} (hc : 1 ≤ c ∧ c ≤ 1073741824) (hl : 0 ≤ l ∧ l ≤ 16777216) (hk : 0 ≤ v.2.2.2.2.2 ∧ v.2.2.2.2.2 ≤ 1073741824) (hN : 2000 < N) :
    W.cubic_Hear_j2 N now l c v (csz m) (c, v.2.1, p, e, o, v.2.2.2.2.2) p e o = some (cgo v c l now m p e o) := by
  have hz := csz_in m
  have hT := ctgt_in (c, v.2.1, p, e, o, v.2.2.2.2.2) now m
  have hm := more_in hc hl (show 1 ≤ ctgt (c, v.2.1, p, e, o, v.2.2.2.2.2) now m ∧ _ from ⟨by omega, hT.2⟩) hz
  simp only [W.cubic_Hear_j2, cubic_Target_eq N _ _ _ hN, ctgt_csz, Option.bind_some, cgo]
  generalize ctgt (c, v.2.1, p, e, o, v.2.2.2.2.2) now m = T at *
  rw [wrapI64 (x := 100 * c) (by omega) (by omega), decide_eq_false (show ¬ 100 * c = 0 by omega)]
  simp only [Bool.not_false, cond_true]
  by_cases h : c < T
  · have g := hm.1 h
    rw [bift h, if_pos h, wrapI64 (x := T - c) (by omega) (by omega), wide_MulDiv_eq N ⟨by omega, by omega⟩ ⟨by omega, by omega⟩ ⟨by omega, by omega⟩ hN]
    have e : mdv (T - c) l c false = ((T - c) * l / c, 0) := by
      simp only [mdv, Bool.false_eq_true, false_and, if_false]
      rw [if_neg (by omega), if_neg (by omega)]
    rw [e, Option.bind_some]
    exact cubic_j3 N hc hl hk ⟨by omega, by omega⟩
  · have g := hm.2
    rw [biff h, if_neg h, wrapI64 (x := l * csz m) (by omega) (by omega), tdiv_nn (by omega), wrapI64 (x := l * csz m / (100 * c)) (by omega) (by omega)]
    exact cubic_j3 N hc hl hk ⟨by omega, by omega⟩

theorem cubic_j1 (N : Nat) {l c now m : Int} {v : CS} (hc : 1 ≤ c ∧ c ≤ 1073741824) (hl : 0 ≤ l ∧ l ≤ 16777216) (hk : 0 ≤ v.2.2.2.2.2 ∧ v.2.2.2.2.2 ≤ 1073741824) (hN : 2000 < N) :
    W.cubic_Hear_j1 N now v (csz m) l (c, v.2) c = some (crest v c l now m) := by
  simp only [W.cubic_Hear_j1, sat_Clamp_eq, Option.bind_some, imx_eq, crest]
  by_cases h0 : l = 0
  · subst h0; rfl
  · rw [beq_false_of_ne h0, if_neg h0, cond_false, bifd]
    split
    · exact cubic_j2 N hc hl hk hN
    · exact cubic_j2 N hc hl hk hN

theorem fast_in {v : CS} {m : Int} (a : Int) (h : CI v m) : 1 ≤ v.1 + (if v.1 < v.2.1 then min (cl a 0 16777216) (v.2.1 - v.1) else 0) ∧ v.1 + (if v.1 < v.2.1 then min (cl a 0 16777216) (v.2.1 - v.1) else 0) ≤ 1073741824 ∧
    0 ≤ cl a 0 16777216 - (if v.1 < v.2.1 then min (cl a 0 16777216) (v.2.1 - v.1) else 0) ∧ cl a 0 16777216 - (if v.1 < v.2.1 then min (cl a 0 16777216) (v.2.1 - v.1) else 0) ≤ 16777216 ∧ 0 ≤ (if v.1 < v.2.1 then min (cl a 0 16777216) (v.2.1 - v.1) else 0) := by
  have h1 := h.c; have h2 := h.t; have h3 := csz_in m
  have ha : 0 ≤ cl a 0 16777216 ∧ cl a 0 16777216 ≤ 16777216 := by simp only [cl]; omega
  split <;> omega

theorem cubic_Hear_eq (N : Nat) (s : CS) (acked now m : Int) (hN : 2000 < N) : W.cubic_Hear N s acked now m = some (chear s acked now m) := by
  have hv := cwi_in s m
  have hf := fast_in acked hv
  have h1 := hv.c; have h2 := hv.t; have h3 := csz_in m
  have ha : 0 ≤ cl acked 0 16777216 ∧ cl acked 0 16777216 ≤ 16777216 := by simp only [cl]; omega
  simp only [W.cubic_Hear, cubic_within_eq, cubic_size_eq, sat_Clamp_eq, Option.bind_some, imn_eq, chear]
  by_cases hs : (cwi s m).1 < (cwi s m).2.1
  · rw [if_pos hs] at hf
    rw [bift hs, if_pos hs, wrapI64 (x := (cwi s m).2.1 - (cwi s m).1) (by omega) (by omega), wrapI64 (x := cl acked 0 16777216 - _) (by omega) (by omega), wrapI64 (x := (cwi s m).1 + _) (by omega) (by omega)]
    exact cubic_j1 N (by omega) (by omega) hv.k hN
  · rw [biff hs, if_neg hs, Int.add_zero, Int.sub_zero]
    exact cubic_j1 N (c := (cwi s m).1) (by omega) (by omega) hv.k hN

theorem ref_j4 (N : Nat) {c p e o more x : Int} {v : CS} (hc : 1 ≤ c ∧ c ≤ 1073741824) (hk : 0 ≤ v.2.2.2.2.2 ∧ v.2.2.2.2.2 ≤ 1073741824) (hm : 0 ≤ more ∧ more ≤ 18014398509481984) (hx : 0 ≤ x ∧ x ≤ min (v.2.2.2.2.2 + more) 1073741824) :
    W.leatref49_Hear_j4 N c p e o more v x = some (c + min x (1073741824 - c), v.2.1, p, e, o, min (v.2.2.2.2.2 + more) 1073741824 - min x (1073741824 - c)) := by
  simp only [W.leatref49_Hear_j4, imn_eq]
  rw [wrapI64 (x := 1073741824 - c) (by omega) (by omega), wrapI64 (x := v.2.2.2.2.2 + more) (by omega) (by omega), wrapI64 (x := c + (1073741824 - c)) (by omega) (by omega), wrapI64 (x := min (v.2.2.2.2.2 + more) 1073741824 - (1073741824 - c)) (by omega) (by omega), wrapI64 (x := c + x) (by omega) (by omega), wrapI64 (x := min (v.2.2.2.2.2 + more) 1073741824 - x) (by omega) (by omega), bifd]
  split
  · rw [show min x (1073741824 - c) = 1073741824 - c by omega]
  · rw [show min x (1073741824 - c) = x by omega]

theorem ref_j3 (N : Nat) {l c p e o more : Int} {v : CS} (hc : 1 ≤ c ∧ c ≤ 1073741824) (hl : 0 ≤ l ∧ l ≤ 16777216) (hk : 0 ≤ v.2.2.2.2.2 ∧ v.2.2.2.2.2 ≤ 1073741824) (hm : 0 ≤ more ∧ more ≤ 18014398509481984) :
    W.leatref49_Hear_j3 N l c p e o v more = some (c + min (min (min (v.2.2.2.2.2 + more) 1073741824) ((l + 1) / 2)) (1073741824 - c), v.2.1, p, e, o, min (v.2.2.2.2.2 + more) 1073741824 - min (min (min (v.2.2.2.2.2 + more) 1073741824) ((l + 1) / 2)) (1073741824 - c)) := by
  simp only [W.leatref49_Hear_j3, imn_eq]
  rw [wrapI64 (x := l + 1) (by omega) (by omega), tdiv_nn (by omega), wrapI64 (x := (l + 1) / 2) (by omega) (by omega), wrapI64 (x := v.2.2.2.2.2 + more) (by omega) (by omega), bifd]
  split
  · rw [ref_j4 N hc hk hm ⟨by omega, by omega⟩, show min (min (v.2.2.2.2.2 + more) 1073741824) ((l + 1) / 2) = (l + 1) / 2 by omega]
  · rw [ref_j4 N hc hk hm ⟨by omega, by omega⟩, show min (min (v.2.2.2.2.2 + more) 1073741824) ((l + 1) / 2) = min (v.2.2.2.2.2 + more) 1073741824 by omega]

theorem ref_j2 (N : Nat) {l c p e o now m : Int} {v : CS} (hc : 1 ≤ c ∧ c ≤ 1073741824) (hl : 0 ≤ l ∧ l ≤ 16777216) (hk : 0 ≤ v.2.2.2.2.2 ∧ v.2.2.2.2.2 ≤ 1073741824) (hN : 3000000 < N) :
    W.leatref49_Hear_j2 N now m l c v (c, v.2.1, p, e, o, v.2.2.2.2.2) p e o = some (cgo v c l now m p e o) := by
  have hz := csz_in m
  have hT := ctgt_in (c, v.2.1, p, e, o, v.2.2.2.2.2) now m
  have hm := more_in hc hl (show 1 ≤ ctgt (c, v.2.1, p, e, o, v.2.2.2.2.2) now m ∧ _ from ⟨by omega, hT.2⟩) hz
  simp only [W.leatref49_Hear_j2, leatref49_Target_eq N _ _ _ hN, leatref49_Size_eq, Option.bind_some, cgo]
  generalize ctgt (c, v.2.1, p, e, o, v.2.2.2.2.2) now m = T at *
  rw [wrapI64 (x := 100 * c) (by omega) (by omega), decide_eq_false (show ¬ 100 * c = 0 by omega)]
  simp only [Bool.not_false, cond_true]
  by_cases h : c < T
  · have g := hm.1 h
    rw [bift h, if_pos h, wrapI64 (x := T - c) (by omega) (by omega), leatref02_MulDiv_eq N ⟨by omega, by omega⟩ ⟨by omega, by omega⟩ ⟨by omega, by omega⟩ false (by omega)]
    have e : mdv (T - c) l c false = ((T - c) * l / c, 0) := by
      simp only [mdv, Bool.false_eq_true, false_and, if_false]
      rw [if_neg (by omega), if_neg (by omega)]
    rw [e, Option.bind_some]
    exact ref_j3 N hc hl hk ⟨by omega, by omega⟩
  · have g := hm.2
    rw [biff h, if_neg h, wrapI64 (x := l * csz m) (by omega) (by omega), tdiv_nn (by omega), wrapI64 (x := l * csz m / (100 * c)) (by omega) (by omega)]
    exact ref_j3 N hc hl hk ⟨by omega, by omega⟩

theorem ref_j1 (N : Nat) {l c now m : Int} {v : CS} (hc : 1 ≤ c ∧ c ≤ 1073741824) (hl : 0 ≤ l ∧ l ≤ 16777216) (hk : 0 ≤ v.2.2.2.2.2 ∧ v.2.2.2.2.2 ≤ 1073741824) (he : -1 ≤ v.2.2.2.1) (hN : 3000000 < N) :
    W.leatref49_Hear_j1 N now m v l (c, v.2) c = some (crest v c l now m) := by
  simp only [W.leatref49_Hear_j1, leatref49_keep_eq N (show (0 : Int) ≤ 1125899906842624 by omega), Option.bind_some, crest]
  by_cases h0 : l = 0
  · subst h0; rfl
  · rw [beq_false_of_ne h0, if_neg h0, cond_false]
    by_cases h1 : v.2.2.2.1 < 0
    · rw [if_pos h1, show v.2.2.2.1 = -1 by omega, beq_self_eq_true, cond_true, bifd]
      split
      · rw [show max v.2.2.1 c = c by omega]; exact ref_j2 N hc hl hk hN
      · rw [show max v.2.2.1 c = v.2.2.1 by omega]; exact ref_j2 N hc hl hk hN
    · rw [if_neg h1, beq_false_of_ne (show v.2.2.2.1 ≠ -1 by omega), cond_false]
      exact ref_j2 N hc hl hk hN

theorem leatref49_Hear_eq (N : Nat) (s : CS) (acked now m : Int) (hN : 3000000 < N) : W.leatref49_Hear N s acked now m = some (chear s acked now m) := by
  have hv := cwi_in s m
  have hf := fast_in acked hv
  have h1 := hv.c; have h2 := hv.t; have h3 := csz_in m
  have ha : 0 ≤ cl acked 0 16777216 ∧ cl acked 0 16777216 ≤ 16777216 := by simp only [cl]; omega
  simp only [W.leatref49_Hear, leatref49_Within_eq, leatref49_keep_eq N (show (0 : Int) ≤ 16777216 by omega), Option.bind_some, imn_eq, chear]
  by_cases hs : (cwi s m).1 < (cwi s m).2.1
  · rw [if_pos hs] at hf
    rw [bift hs, if_pos hs, wrapI64 (x := (cwi s m).2.1 - (cwi s m).1) (by omega) (by omega), wrapI64 (x := cl acked 0 16777216 - _) (by omega) (by omega), wrapI64 (x := (cwi s m).1 + _) (by omega) (by omega)]
    exact ref_j1 N (by omega) (by omega) hv.k hv.e.1 hN
  · rw [biff hs, if_neg hs, Int.add_zero, Int.sub_zero]
    exact ref_j1 N (c := (cwi s m).1) (by omega) (by omega) hv.k hv.e.1 hN

theorem CubicHears_i (N : Nat) (hN : 3000000 < N) (s : CS) (a b m : Int) : W.leatlaw49_CubicHears N s a (b, m) = some true := by
  have h2 : 2000 < N := by omega
  simp only [W.leatlaw49_CubicHears, cubic_Target_eq N _ _ _ h2, leatref49_Target_eq N _ _ _ hN, cubic_Hear_eq N _ _ _ _ h2, leatref49_Hear_eq N _ _ _ _ hN, leatlaw49_works_eq N h2, Option.bind_some, beq_self_eq_true, Bool.and_self, cond_true]

theorem CubicHears (x : RT [.agg [.int .i64, .int .i64, .int .i64, .int .i64, .int .i64, .int .i64], .sc (.int .i64), .agg [.int .i64, .int .i64]]) (_ : RT.wf _ x) : ∃ N, uncR [.agg [.int .i64, .int .i64, .int .i64, .int .i64, .int .i64, .int .i64], .sc (.int .i64), .agg [.int .i64, .int .i64]] (W.leatlaw49_CubicHears N) x = some true := by
  obtain ⟨s, a, b, m⟩ := x
  exact ⟨3000001, CubicHears_i 3000001 (by omega) s a b m⟩

end Go.Proofs.Ytakjmminaolfnaa.Pure
