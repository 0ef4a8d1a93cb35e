/- Wide numbers: any product and any sum. -/
import Derived.Test.YtfoickedejcffaaPWideL
namespace Go.Proofs.Ytfoickedejcffaa.Pure
open Go.Ev Go.RowKit

theorem nv_mod {l : List Int} (h : Bt l) (k : Nat) (hk : k ≤ l.length) : nv (l.take k) = nv l % 2 ^ k ∧ nv (l.drop k) = nv l / 2 ^ k := by
  have hs := nv_split l k hk
  have hb := nv_bd (l := l.take k) fun x hx => h x (List.mem_of_mem_take hx)
  rw [List.length_take, Nat.min_eq_left hk] at hb
  have hp := pow_pos' k
  constructor
  · rw [hs, Int.add_mul_emod_self_left, Int.emod_eq_of_lt hb.1 hb.2]
  · rw [hs, Int.add_mul_ediv_left _ _ (by omega), Int.ediv_eq_zero_of_lt hb.1 hb.2]; omega

theorem WideMuls_i (N : Nat) (hN : 2000 < N) (a b : Int) (x y : Int × Int) (ha : U64 a) (hb : U64 b) (x1 : U64 x.1) (x2 : U64 x.2) (y1 : U64 y.1) (y2 : U64 y.2) : W.leatlaw02_WideMuls N a b (x.1, (x.2, y)) = some true := by
  obtain ⟨p, p1, p2, p3, p4⟩ := bits_of N ha hN
  obtain ⟨q, q1, q2, q3, q4⟩ := bits_of N hb hN
  obtain ⟨m, m1, m2, m3, m4⟩ := leatref02_Mul_eq N p2 q2 (by omega) (by omega) hN
  obtain ⟨u, u1, u2, u3, u4⟩ := leatlaw02_bits_eq N x1 x2 hN
  obtain ⟨v, v1, v2, v3, v4⟩ := leatlaw02_bits_eq N y1 y2 hN
  obtain ⟨s, s1, s2, s3, s4⟩ := leatref02_Add_eq N u2 v2 (by omega) (by omega) hN
  have hab := mul_U ha hb
  obtain ⟨r, r1, r2, r3, r4⟩ := leatlaw02_bits_eq N (x := (a * b / 18446744073709551616, a * b % 18446744073709551616)) ⟨by simp only; omega, by simp only; omega⟩ ⟨by simp only; omega, by simp only; omega⟩ hN
  have c1 := leatref02_Cmp_eq N r2 m2 (by omega) (by omega) hN
  have er : nv r = nv m := by rw [r4, m4, p4, q4]; simp only [wv]; omega
  rw [if_neg (by omega), if_neg (by omega)] at c1
  have hs : s.length = 129 := by rw [s3, u3, v3]; rfl
  rw [u4, v4] at s4
  have t0 := nv_mod s2 64 (by omega)
  have t1 := nv_mod s2 128 (by omega)
  have n0 := leatref02_Num_eq N s2 (m := 0) (by omega) hN
  rw [List.drop_zero, t0.1, s4] at n0
  have n0' : W.leatref02_Num N s 0 = some ((wv x + wv y) % 2 ^ 64) := n0
  have hcut : cutL s 0 128 = s.take 128 := rfl
  have bt : Bt (s.take 128) := fun z hz => s2 z (List.mem_of_mem_take hz)
  have t2 := nv_mod bt 64 (by simp [hs])
  have bt3 : Bt ((s.take 128).drop 64) := fun z hz => bt z (List.mem_of_mem_drop hz)
  have t3 : ((s.take 128).drop 64).take 64 = (s.take 128).drop 64 := List.take_of_length_le (by simp [hs])
  have n1 := leatref02_Num_eq N bt (m := 64) (by omega) hN
  rw [t3, t2.2, t1.1, s4] at n1
  have n1' : W.leatref02_Num N (cutL s 0 128) 64 = some ((wv x + wv y) % 2 ^ 128 / 2 ^ 64) := n1
  have hx : 0 ≤ wv x ∧ wv x < 340282366920938463463374607431768211456 := by simp only [wv]; omega
  have hy : 0 ≤ wv y ∧ wv y < 340282366920938463463374607431768211456 := by simp only [wv]; omega
  have hg : s.getD 128 0 = (wv x + wv y) / 340282366920938463463374607431768211456 := by
    have e := t1.2
    rw [nv_drop, List.drop_eq_nil_of_le (by omega : s.length ≤ 128 + 1), s4] at e
    simp only [nv] at e
    omega
  have hw := wide_Add_eq N x1 x2 y1 y2
  have hc := leatref02_Cmp_eq N u2 v2 (by omega) (by omega) hN
  rw [u4, v4] at hc
  have hcw := wide_Cmp_val N (x := x) (y := y) x2 y2 (by omega)
  have d1 : ((s.length : Nat) : Int) = 129 := by omega
  have hg' : s.getD (128 : Int).toNat 0 = (wv x + wv y) / 340282366920938463463374607431768211456 := hg
  simp only [W.leatlaw02_WideMuls, p1, q1, m1, u1, v1, s1, hw, wide_Mul_eq N ha hb, r1, c1, n0', n1', hg', hcw, hc, leatlaw02_works_eq _ hN, Option.bind_some, d1]
  have k0 : ((wv x + wv y) % 18446744073709551616 == (wv x + wv y) % 2 ^ 64) = true := by simp
  have k1 : ((wv x + wv y) / 18446744073709551616 % 18446744073709551616 == (wv x + wv y) % 2 ^ 128 / 2 ^ 64) = true := by rw [beq_iff_eq]; omega
  have k2 : (decide (340282366920938463463374607431768211456 ≤ wv x + wv y) == ((wv x + wv y) / 340282366920938463463374607431768211456 == 1)) = true := by
    rw [beq_iff_eq, Bool.eq_iff_iff, decide_eq_true_eq, beq_iff_eq]; omega
  rw [k0, k1, k2]
  simp

theorem WideMuls_t (N : Nat) (hN : 2000 < N) (a b : Int) (t : Int × Int × Int × Int) (ha : U64 a) (hb : U64 b) (h1 : U64 t.1) (h2 : U64 t.2.1) (h3 : U64 t.2.2.1) (h4 : U64 t.2.2.2) : W.leatlaw02_WideMuls N a b t = some true :=
  WideMuls_i N hN a b (t.1, t.2.1) t.2.2 ha hb h1 h2 h3 h4

theorem WideMuls (x : RT [.sc (.int .u64), .sc (.int .u64), .agg [.int .u64, .int .u64, .int .u64, .int .u64]]) (h : RT.wf _ x) : ∃ N, uncR [.sc (.int .u64), .sc (.int .u64), .agg [.int .u64, .int .u64, .int .u64, .int .u64]] (W.leatlaw02_WideMuls N) x = some true := by
  obtain ⟨a, b, t⟩ := x
  have h' : SK.wf (.int .u64) a ∧ SK.wf (.int .u64) b ∧ SK.wf (.int .u64) t.1 ∧ SK.wf (.int .u64) t.2.1 ∧ SK.wf (.int .u64) t.2.2.1 ∧ SK.wf (.int .u64) t.2.2.2 := h
  have key : ∀ N, uncR [.sc (.int .u64), .sc (.int .u64), .agg [.int .u64, .int .u64, .int .u64, .int .u64]] (W.leatlaw02_WideMuls N) (a, b, t) = W.leatlaw02_WideMuls N a b t := fun _ => rfl
  obtain ⟨N, hN⟩ : ∃ N, 2000 < N := ⟨2001, by omega⟩
  exact ⟨N, (key N).trans <| WideMuls_t N hN a b t (u64_range h'.1) (u64_range h'.2.1) (u64_range h'.2.2.1) (u64_range h'.2.2.2.1) (u64_range h'.2.2.2.2.1) (u64_range h'.2.2.2.2.2)⟩

end Go.Proofs.Ytfoickedejcffaa.Pure
