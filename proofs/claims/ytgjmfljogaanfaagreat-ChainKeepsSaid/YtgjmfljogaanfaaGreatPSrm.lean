/- The library's stable sorting: merging in place, and the whole. -/
import Derived.Test.YtgjmfljogaanfaaGreatPSrl
namespace Go.Proofs.YtgjmfljogaanfaaGreat.Pure
open Go.Ev Go.RowKit

theorem getR {U B V : List Pk} {i j : Nat} (hj : j = U.length + i) (hi : i < B.length) : (U ++ B ++ V).getD j pk0 = B.getD i pk0 := by
  subst hj
  simp only [List.getD_eq_getElem?_getD]
  rw [List.append_assoc, List.getElem?_append_right (by omega), List.getElem?_append_left (by omega)]
  congr 2
  omega

theorem getR' {U B V : List Pk} {j : Nat} (h1 : U.length ≤ j) (h2 : j < U.length + B.length) : (U ++ B ++ V).getD j pk0 = B.getD (j - U.length) pk0 := getR (by omega) (by omega)

theorem srt_get {A : List Pk} (h : Srt A) {i j : Nat} (hij : i ≤ j) (hj : j < A.length) : key (A.getD i pk0) ≤ key (A.getD j pk0) := by
  simp only [List.getD_eq_getElem?_getD, List.getElem?_eq_getElem hj, List.getElem?_eq_getElem (show i < A.length by omega), Option.getD_some]
  rcases Nat.lt_or_eq_of_le hij with hlt | rfl
  · exact List.pairwise_iff_getElem.1 h i j (by omega) hj hlt
  · exact Int.le_refl _

theorem mem_get {A : List Pk} {q : Pk} (h : q ∈ A) : ∃ i, i < A.length ∧ A.getD i pk0 = q := by
  obtain ⟨i, hi, rfl⟩ := List.mem_iff_getElem.1 h
  exact ⟨i, hi, by simp [List.getD_eq_getElem?_getD, hi]⟩

theorem mem_take_get {A : List Pk} {q : Pk} {n : Nat} (h : q ∈ A.take n) : ∃ i, i < n ∧ i < A.length ∧ A.getD i pk0 = q := by
  obtain ⟨i, hi, rfl⟩ := List.mem_iff_getElem.1 h
  simp only [List.length_take] at hi
  exact ⟨i, by omega, by omega, by simp [List.getD_eq_getElem?_getD, show i < A.length by omega]⟩

theorem mem_drop_get {A : List Pk} {q : Pk} {n : Nat} (h : q ∈ A.drop n) : ∃ i, n ≤ i ∧ i < A.length ∧ A.getD i pk0 = q := by
  obtain ⟨i, hi, rfl⟩ := List.mem_iff_getElem.1 h
  simp only [List.length_drop] at hi
  exact ⟨n + i, by omega, by omega, by simp [List.getD_eq_getElem?_getD, show n + i < A.length by omega]⟩

theorem srt_take {A : List Pk} (h : Srt A) (n : Nat) : Srt (A.take n) := List.Pairwise.sublist (List.take_sublist n A) h

theorem srt_drop {A : List Pk} (h : Srt A) (n : Nat) : Srt (A.drop n) := List.Pairwise.sublist (List.drop_sublist n A) h

abbrev SM (N k : Nat) (a m b : Int) (l : List Pk) := W.slices_symMergeCmpFunc_api_Packet_I N k ((a, (m, (b, ()))), (l, ()))

theorem sm_one_left (N : Nat) (hN : big < N) (F) (P B R : List Pk) (x : Pk) (hB : Srt B) (hbig : (P ++ x :: B ++ R).length ≤ big) :
    W.slices_symMergeCmpFunc_api_Packet_S N F (((P.length : Int), (((P.length + 1 : Nat) : Int), (((P.length + 1 + B.length : Nat) : Int), ()))), (P ++ x :: B ++ R, ())) = some ((), (P ++ mrg [x] B ++ R, ())) := by
  have hb2 := hbig
  simp only [List.length_append, List.length_cons, big] at hb2 hN
  have ga : (P ++ x :: B ++ R).getD P.length pk0 = x := by rw [List.append_assoc, List.cons_append]; exact getA rfl
  have gb : ∀ c, P.length + 1 ≤ c → c < P.length + 1 + B.length → (P ++ x :: B ++ R).getD c pk0 = B.getD (c - (P.length + 1)) pk0 := by
    intro c h1 h2
    have := getR (U := P ++ [x]) (B := B) (V := R) (i := c - (P.length + 1)) (j := c) (by simp; omega) (by omega)
    simpa using this
  obtain ⟨s, s1, s2, s3, s4, s5⟩ := search3 N (P ++ x :: B ++ R) P.length (P.length + 1) (P.length + 1 + B.length) (by omega) (by simp <;> omega) (by simp <;> omega) hbig hN (fun c d h1 h2 h3 h4 => by
    rw [ga, gb d (by omega) h3] at h4
    rw [ga, gb c h1 (by omega)]
    have := srt_get hB (i := c - (P.length + 1)) (j := d - (P.length + 1)) (by omega) (by omega)
    omega)
  have hBs : B = B.take (s - (P.length + 1)) ++ B.drop (s - (P.length + 1)) := (List.take_append_drop _ _).symm
  have hsl : (B.take (s - (P.length + 1))).length = s - (P.length + 1) := by simp; omega
  have hm : mrg [x] B = B.take (s - (P.length + 1)) ++ x :: B.drop (s - (P.length + 1)) := by
    have h1 := mrg_split [] [x] (B.take (s - (P.length + 1))) (B.drop (s - (P.length + 1))) (fun a ha b hb => by
      simp only [List.mem_singleton] at ha
      subst ha
      obtain ⟨i, i1, i2, rfl⟩ := mem_take_get hb
      have := s3 (i + (P.length + 1)) (by omega) (by omega)
      rw [ga, gb _ (by omega) (by omega)] at this
      simpa using this) (fun a ha => by simp at ha)
    rw [← hBs] at h1
    rw [List.nil_append] at h1
    rw [h1]
    have h2 : mrg [x] (B.drop (s - (P.length + 1))) = x :: B.drop (s - (P.length + 1)) := by
      cases hd : B.drop (s - (P.length + 1)) with
      | nil => simp [mrg]
      | cons b B' =>
        rw [mrg, if_neg]
        · simp [mrg]
        · have hb : b ∈ B.drop (s - (P.length + 1)) := by rw [hd]; simp
          obtain ⟨i, i1, i2, rfl⟩ := mem_drop_get hb
          have := s4 (i + (P.length + 1)) (by omega) (by omega)
          rw [ga, gb _ (by omega) (by omega)] at this
          simpa using this
    rw [h2]
    cases hd : B.take (s - (P.length + 1)) <;> simp [mrg]
  have e1 : IntKind.wrap .i64 (((P.length + 1 : Nat) : Int) - (P.length : Int)) = ((1 : Nat) : Int) := wN (by omega) (by omega)
  have h9 := shift_right N P (B.take (s - (P.length + 1))) (B.drop (s - (P.length + 1)) ++ R) x (s : Int) (by rw [hsl]; omega) (by
    have := congrArg List.length hBs
    simp only [List.length_append] at this
    simp only [List.length_append, List.length_cons, big]; omega) hN
  have hdd : P ++ x :: B.take (s - (P.length + 1)) ++ (B.drop (s - (P.length + 1)) ++ R) = P ++ x :: B ++ R := by
    have : P ++ x :: B.take (s - (P.length + 1)) ++ (B.drop (s - (P.length + 1)) ++ R) = P ++ x :: (B.take (s - (P.length + 1)) ++ B.drop (s - (P.length + 1))) ++ R := by simp only [List.append_assoc, List.cons_append]
    rw [this, ← hBs]
  rw [hdd] at h9
  have c0 : (((1 : Nat) : Int) == 1) = true := rfl
  simp only [W.slices_symMergeCmpFunc_api_Packet_S, e1, c0, cond_true, s5, Option.bind_some, h9]
  rw [hm]
  simp

theorem sm_one_right (N : Nat) (hN : big < N) (F) (P A R : List Pk) (y : Pk) (hA : Srt A) (hA2 : A.length ≠ 1) (hbig : (P ++ A ++ y :: R).length ≤ big) :
    W.slices_symMergeCmpFunc_api_Packet_S N F (((P.length : Int), (((P.length + A.length : Nat) : Int), (((P.length + A.length + 1 : Nat) : Int), ()))), (P ++ A ++ y :: R, ())) = some ((), (P ++ mrg A [y] ++ R, ())) := by
  have hb2 := hbig
  simp only [List.length_append, List.length_cons, big] at hb2 hN
  have ga : (P ++ A ++ y :: R).getD (P.length + A.length) pk0 = y := getA (by simp)
  have gb : ∀ c, P.length ≤ c → c < P.length + A.length → (P ++ A ++ y :: R).getD c pk0 = A.getD (c - P.length) pk0 := fun c h1 h2 => getR' h1 h2
  obtain ⟨s, s1, s2, s3, s4, s5⟩ := search15 N (P ++ A ++ y :: R) (P.length + A.length) P.length (P.length + A.length) (by omega) (by simp) (by simp) hbig hN (fun c d h1 h2 h3 h4 => by
    rw [ga, gb d (by omega) h3] at h4
    rw [ga, gb c h1 (by omega)]
    have := srt_get hA (i := c - P.length) (j := d - P.length) (by omega) (by omega)
    omega)
  have hAs : A = A.take (s - P.length) ++ A.drop (s - P.length) := (List.take_append_drop _ _).symm
  have hsl : (A.take (s - P.length)).length = s - P.length := by simp; omega
  have hm : mrg A [y] = A.take (s - P.length) ++ y :: A.drop (s - P.length) := by
    rw [mrg_one]
    conv => lhs; rw [hAs]
    refine ins_split y _ _ (fun q hq => ?_) (fun q hq => ?_)
    · obtain ⟨i, i1, i2, rfl⟩ := mem_take_get hq
      have := s3 (i + P.length) (by omega) (by omega)
      rw [ga, gb _ (by omega) (by omega)] at this
      simp only [Nat.add_sub_cancel] at this
      omega
    · obtain ⟨i, i1, i2, rfl⟩ := mem_drop_get (List.mem_of_head? hq)
      have := s4 (i + P.length) (by omega) (by omega)
      rw [ga, gb _ (by omega) (by omega)] at this
      simp only [Nat.add_sub_cancel] at this
      omega
  have e0 : IntKind.wrap .i64 (((P.length + A.length : Nat) : Int) - (P.length : Int)) = (A.length : Int) := wN (by omega) (by omega)
  have e1 : IntKind.wrap .i64 (((P.length + A.length + 1 : Nat) : Int) - ((P.length + A.length : Nat) : Int)) = ((1 : Nat) : Int) := wN (by omega) (by omega)
  have hal := congrArg List.length hAs
  simp only [List.length_append] at hal
  have h9 := shift_left N (P ++ A.take (s - P.length)) (A.drop (s - P.length)) R y (s : Int) (by rw [List.length_append, hsl]; omega) (by
    simp only [List.length_append, List.length_cons, big]; omega) hN
  have hdd : P ++ A.take (s - P.length) ++ A.drop (s - P.length) ++ y :: R = P ++ A ++ y :: R := by
    rw [List.append_assoc P, ← hAs]
  have hll : (P ++ A.take (s - P.length)).length + (A.drop (s - P.length)).length = P.length + A.length := by rw [List.length_append]; omega
  rw [hdd, hll] at h9
  have c0 : ((A.length : Int) == 1) = false := by simp; omega
  have c1 : (((1 : Nat) : Int) == 1) = true := rfl
  simp only [W.slices_symMergeCmpFunc_api_Packet_S, e0, e1, c0, c1, cond_true, cond_false, s5, Option.bind_some, h9]
  rw [hm]
  simp

theorem sm_j3 (N : Nat) (F) (A1 B1 A2 B2 P R : List Pk) (a m b mid n s : Int) (l : List Pk) (hmid : mid = ((P.length + A1.length + B1.length : Nat) : Int)) (hend : IntKind.wrap .i64 (n - s) = ((P.length + A1.length + B1.length + A2.length : Nat) : Int))
    (hb : b = ((P.length + A1.length + B1.length + A2.length + B2.length : Nat) : Int))
    (hF : A2 ≠ [] → B2 ≠ [] → ∀ U : List Pk, U.length = P.length + A1.length + B1.length → F ((((P.length + A1.length + B1.length : Nat) : Int), (((P.length + A1.length + B1.length + A2.length : Nat) : Int), (((P.length + A1.length + B1.length + A2.length + B2.length : Nat) : Int), ()))), (U ++ A2 ++ B2 ++ R, ())) = some ((), (U ++ mrg A2 B2 ++ R, ())))
    (U : List Pk) (hU : U.length = P.length + A1.length + B1.length) :
    W.slices_symMergeCmpFunc_api_Packet_S_j3 N F ((a, (m, (b, (mid, (n, (s, ())))))), (l, ())) (U ++ A2 ++ B2 ++ R) = some ((), (U ++ mrg A2 B2 ++ R, ())) := by
  subst hmid hb
  simp only [W.slices_symMergeCmpFunc_api_Packet_S_j3, hend]
  by_cases h2 : A2 = []
  · subst h2
    simp [mrg]
  · have c0 : ((P.length + A1.length + B1.length : Nat) : Int) < ((P.length + A1.length + B1.length + A2.length : Nat) : Int) := by
      have := List.length_pos_iff.2 h2; omega
    by_cases h3 : B2 = []
    · subst h3
      have c1 : ¬ ((P.length + A1.length + B1.length + A2.length : Nat) : Int) < ((P.length + A1.length + B1.length + A2.length + ([] : List Pk).length : Nat) : Int) := by simp
      simp only [c0, c1, decide_true, decide_false, beq_self_eq_true, cond_true, cond_false, mrg_nil]
      simp
    · have c1 : ((P.length + A1.length + B1.length + A2.length : Nat) : Int) < ((P.length + A1.length + B1.length + A2.length + B2.length : Nat) : Int) := by
        have := List.length_pos_iff.2 h3; omega
      simp only [c0, c1, decide_true, beq_self_eq_true, cond_true, hF h2 h3 U hU, Option.bind_some]

theorem sm_j2 (N : Nat) (F) (A1 B1 A2 B2 P R : List Pk) (m b mid n s : Int) (l : List Pk) (hmid : mid = ((P.length + A1.length + B1.length : Nat) : Int)) (hend : IntKind.wrap .i64 (n - s) = ((P.length + A1.length + B1.length + A2.length : Nat) : Int))
    (hb : b = ((P.length + A1.length + B1.length + A2.length + B2.length : Nat) : Int)) (hs : s = ((P.length + A1.length : Nat) : Int))
    (hF1 : A1 ≠ [] → B1 ≠ [] → ∀ V : List Pk, V.length = A2.length + B2.length + R.length → F (((P.length : Int), (((P.length + A1.length : Nat) : Int), (((P.length + A1.length + B1.length : Nat) : Int), ()))), (P ++ A1 ++ B1 ++ V, ())) = some ((), (P ++ mrg A1 B1 ++ V, ())))
    (hF : A2 ≠ [] → B2 ≠ [] → ∀ U : List Pk, U.length = P.length + A1.length + B1.length → F ((((P.length + A1.length + B1.length : Nat) : Int), (((P.length + A1.length + B1.length + A2.length : Nat) : Int), (((P.length + A1.length + B1.length + A2.length + B2.length : Nat) : Int), ()))), (U ++ A2 ++ B2 ++ R, ())) = some ((), (U ++ mrg A2 B2 ++ R, ()))) :
    W.slices_symMergeCmpFunc_api_Packet_S_j2 N F (((P.length : Int), (m, (b, (mid, (n, (s, ())))))), (l, ())) (P ++ A1 ++ B1 ++ A2 ++ B2 ++ R) = some ((), (P ++ mrg A1 B1 ++ mrg A2 B2 ++ R, ())) := by
  have h3 := fun U hU => sm_j3 N F A1 B1 A2 B2 P R (P.length : Int) m b mid n s l hmid hend hb hF U hU
  simp only [W.slices_symMergeCmpFunc_api_Packet_S_j2]
  by_cases h1 : A1 = []
  · subst h1
    have c0 : ¬ (P.length : Int) < s := by rw [hs]; simp
    have := h3 (P ++ [] ++ B1) (by simp)
    simp only [c0, decide_false, show (false == true) = false from rfl, cond_false, this]
    simp [mrg]
  · have c0 : (P.length : Int) < s := by
      have := List.length_pos_iff.2 h1; rw [hs]; omega
    by_cases h2 : B1 = []
    · subst h2
      have c1 : ¬ s < mid := by rw [hs, hmid]; simp
      have := h3 (P ++ A1 ++ []) (by simp)
      simp only [c0, c1, decide_true, decide_false, beq_self_eq_true, cond_true, cond_false, this]
      simp [mrg_nil]
    · have c1 : s < mid := by
        have := List.length_pos_iff.2 h2; rw [hs, hmid]; omega
      have hr := hF1 h1 h2 (A2 ++ B2 ++ R) (by simp; omega)
      have e : P ++ A1 ++ B1 ++ A2 ++ B2 ++ R = P ++ A1 ++ B1 ++ (A2 ++ B2 ++ R) := by simp
      have := h3 (P ++ mrg A1 B1) (by rw [List.length_append, mrg_length]; omega)
      rw [e]
      simp only [c0, c1, decide_true, beq_self_eq_true, cond_true]
      rw [hs, hmid, hr]
      simp only [Option.bind_some]
      rw [hs, hmid] at this
      have e2 : P ++ mrg A1 B1 ++ (A2 ++ B2 ++ R) = P ++ mrg A1 B1 ++ A2 ++ B2 ++ R := by simp
      rw [e2, this]

theorem symMerge_I_eq (N : Nat) (hN : big < N) : ∀ (k : Nat) (P A B R : List Pk), A ≠ [] → B ≠ [] → Srt A → Srt B → A.length + B.length ≤ k → (P ++ A ++ B ++ R).length ≤ big →
    W.slices_symMergeCmpFunc_api_Packet_I N k (((P.length : Int), (((P.length + A.length : Nat) : Int), (((P.length + A.length + B.length : Nat) : Int), ()))), (P ++ A ++ B ++ R, ())) = some ((), (P ++ mrg A B ++ R, ()))
  | 0, P, A, B, R, hA0, hB0, _, _, hk, _ => by
    have := List.length_pos_iff.2 hA0
    omega
  | k + 1, P, A, B, R, hA0, hB0, hA, hB, hk, hbig => by
    have ha0 := List.length_pos_iff.2 hA0
    have hb0 := List.length_pos_iff.2 hB0
    have ih := symMerge_I_eq N hN k
    rw [W.slices_symMergeCmpFunc_api_Packet_I]
    by_cases h1 : A.length = 1
    · obtain ⟨x, rfl⟩ := List.length_eq_one_iff.1 h1
      have := sm_one_left N hN (W.slices_symMergeCmpFunc_api_Packet_I N k) P B R x hB (by simpa using hbig)
      simpa using this
    by_cases h2 : B.length = 1
    · obtain ⟨y, rfl⟩ := List.length_eq_one_iff.1 h2
      have := sm_one_right N hN (W.slices_symMergeCmpFunc_api_Packet_I N k) P A R y hA h1 (by simpa using hbig)
      simpa using this
    have hbl := hbig
    simp only [List.length_append, big] at hbl hN
    obtain ⟨a, hae⟩ : ∃ a, a = P.length := ⟨_, rfl⟩
    obtain ⟨m, hme⟩ : ∃ m, m = P.length + A.length := ⟨_, rfl⟩
    obtain ⟨b, hbe⟩ : ∃ b, b = P.length + A.length + B.length := ⟨_, rfl⟩
    obtain ⟨mid, hmid⟩ : ∃ mid, mid = (a + b) / 2 := ⟨_, rfl⟩
    have gA : ∀ c, a ≤ c → c < m → (P ++ A ++ B ++ R).getD c pk0 = A.getD (c - a) pk0 := fun c q1 q2 => by
      rw [show P ++ A ++ B ++ R = P ++ A ++ (B ++ R) by simp, hae]; exact getR' (by omega) (by omega)
    have gB : ∀ c, m ≤ c → c < b → (P ++ A ++ B ++ R).getD c pk0 = B.getD (c - m) pk0 := fun c q1 q2 => by
      have := getR' (U := P ++ A) (B := B) (V := R) (j := c) (by simp; omega) (by simp; omega)
      rw [this, List.length_append, hme]
    -- the search
    obtain ⟨lo, hi, hlohi, hl1, hl2, hl3, hl4, hcase⟩ : ∃ lo hi : Nat, lo ≤ hi ∧ a ≤ lo ∧ hi ≤ m ∧ hi ≤ mid ∧ mid + m ≤ b + lo ∧ (lo = a ∨ lo + b = mid + m) ∧ (hi = m ∨ hi = mid) ∧
        W.slices_symMergeCmpFunc_api_Packet_S N (W.slices_symMergeCmpFunc_api_Packet_I N k) (((P.length : Int), (((P.length + A.length : Nat) : Int), (((P.length + A.length + B.length : Nat) : Int), ()))), (P ++ A ++ B ++ R, ())) =
          W.slices_symMergeCmpFunc_api_Packet_S_j1 N (W.slices_symMergeCmpFunc_api_Packet_I N k) (((P.length : Int), (((P.length + A.length : Nat) : Int), (((P.length + A.length + B.length : Nat) : Int), ()))), (P ++ A ++ B ++ R, ())) (lo : Int) (hi : Int) := by
      have e0 : IntKind.wrap .i64 (((P.length + A.length : Nat) : Int) - (P.length : Int)) = (A.length : Int) := wN (by omega) (by omega)
      have e1 : IntKind.wrap .i64 (((P.length + A.length + B.length : Nat) : Int) - ((P.length + A.length : Nat) : Int)) = (B.length : Int) := wN (by omega) (by omega)
      have e2 : IntKind.wrap .i64 (Int.fdiv (IntKind.wrap .u64 (IntKind.wrap .i64 ((P.length : Int) + ((P.length + A.length + B.length : Nat) : Int)))) 2) = (mid : Int) := by
        rw [half (n := a + b) (by omega) (by omega), hmid]
      have e3 : IntKind.wrap .i64 ((mid : Int) + ((P.length + A.length : Nat) : Int)) = ((mid + m : Nat) : Int) := wN (by omega) (by omega)
      have c0 : ((A.length : Int) == 1) = false := by simp; omega
      have c1 : ((B.length : Int) == 1) = false := by simp; omega
      by_cases hlt : mid < m
      · have c2 : (mid : Int) < ((P.length + A.length : Nat) : Int) := by omega
        have e4 : IntKind.wrap .i64 (((mid + m : Nat) : Int) - ((P.length + A.length + B.length : Nat) : Int)) = ((mid + m - b : Nat) : Int) := wN (by omega) (by omega)
        refine ⟨mid + m - b, mid, by omega, by omega, by omega, by omega, by omega, by omega, by omega, ?_⟩
        simp only [W.slices_symMergeCmpFunc_api_Packet_S, e0, e1, e2, e3, e4, c0, c1, c2, decide_true, cond_true, cond_false]
      · have c2 : ¬ (mid : Int) < ((P.length + A.length : Nat) : Int) := by omega
        refine ⟨a, m, by omega, by omega, by omega, by omega, by omega, by omega, by omega, ?_⟩
        simp only [W.slices_symMergeCmpFunc_api_Packet_S, e0, e1, e2, c0, c1, c2, decide_false, cond_false, hae, hme]
    obtain ⟨hlo, hhi, hS⟩ := hcase
    rw [hS]
    have gA' : ∀ c, lo ≤ c → c < hi → (P ++ A ++ B ++ R).getD c pk0 = A.getD (c - a) pk0 := fun c q1 q2 => gA c (by omega) (by omega)
    have gB' : ∀ c, lo ≤ c → c < hi → (P ++ A ++ B ++ R).getD (mid + m - 1 - c) pk0 = B.getD (mid + m - 1 - c - m) pk0 := fun c q1 q2 => gB _ (by omega) (by omega)
    obtain ⟨s, s1, s2, s3, s4, s5⟩ := search33 N (P ++ A ++ B ++ R) (P.length : Int) ((P.length + A.length : Nat) : Int) ((P.length + A.length + B.length : Nat) : Int) (mid : Int) ((mid + m : Nat) : Int) (mid + m - 1) lo hi hlohi (by simp; omega) (by omega) (by simp; omega) (by simp only [big]; omega) hbig hN (fun c d q1 q2 q3 q4 => by
      rw [gA' d (by omega) q3, gB' d (by omega) q3] at q4
      rw [gA' c q1 (by omega), gB' c q1 (by omega)]
      have w1 := srt_get hA (i := c - a) (j := d - a) (by omega) (by omega)
      have w2 := srt_get hB (i := mid + m - 1 - d - m) (j := mid + m - 1 - c - m) (by omega) (by omega)
      omega)
    -- the four parts
    have hAs : A = A.take (s - a) ++ A.drop (s - a) := (List.take_append_drop _ _).symm
    have hBs : B = B.take (mid - s) ++ B.drop (mid - s) := (List.take_append_drop _ _).symm
    have k1 : (A.take (s - a)).length = s - a := by simp; omega
    have k2 : (A.drop (s - a)).length = m - s := by simp; omega
    have k3 : (B.take (mid - s)).length = mid - s := by simp; omega
    have k4 : (B.drop (mid - s)).length = b - (mid + m - s) := by simp; omega
    have hm : mrg A B = mrg (A.take (s - a)) (B.take (mid - s)) ++ mrg (A.drop (s - a)) (B.drop (mid - s)) := by
      conv => lhs; rw [hAs, hBs]
      refine mrg_split _ _ _ _ (fun x hx y hy => ?_) (fun x hx y hy => ?_)
      · obtain ⟨i, i1, i2, rfl⟩ := mem_drop_get hx
        obtain ⟨j, j1, j2, rfl⟩ := mem_take_get hy
        have w := s4 s (Nat.le_refl _) (by omega)
        rw [gA' s s1 (by omega), gB' s s1 (by omega)] at w
        have w1 := srt_get hA (i := s - a) (j := i) (by omega) (by omega)
        have w2 := srt_get hB (i := j) (j := mid + m - 1 - s - m) (by omega) (by omega)
        omega
      · obtain ⟨i, i1, i2, rfl⟩ := mem_take_get hx
        obtain ⟨j, j1, j2, rfl⟩ := mem_drop_get hy
        have w := s3 (s - 1) (by omega) (by omega)
        rw [gA' (s - 1) (by omega) (by omega), gB' (s - 1) (by omega) (by omega)] at w
        have w1 := srt_get hA (i := i) (j := s - 1 - a) (by omega) (by omega)
        have w2 := srt_get hB (i := mid + m - 1 - (s - 1) - m) (j := j) (by omega) (by omega)
        omega
    generalize hA1 : A.take (s - a) = A1 at *
    generalize hA2 : A.drop (s - a) = A2 at *
    generalize hB1 : B.take (mid - s) = B1 at *
    generalize hB2 : B.drop (mid - s) = B2 at *
    have hsA1 : Srt A1 := hA1 ▸ srt_take hA _
    have hsA2 : Srt A2 := hA2 ▸ srt_drop hA _
    have hsB1 : Srt B1 := hB1 ▸ srt_take hB _
    have hsB2 : Srt B2 := hB2 ▸ srt_drop hB _
    have e2 : IntKind.wrap .i64 (Int.fdiv (IntKind.wrap .u64 (IntKind.wrap .i64 ((P.length : Int) + ((P.length + A.length + B.length : Nat) : Int)))) 2) = (mid : Int) := by
      rw [half (n := a + b) (by omega) (by omega), hmid]
    have e3 : IntKind.wrap .i64 ((mid : Int) + ((P.length + A.length : Nat) : Int)) = ((mid + m : Nat) : Int) := wN (by omega) (by omega)
    have e4 : IntKind.wrap .i64 (((mid + m : Nat) : Int) - 1) = ((mid + m - 1 : Nat) : Int) := wN (by omega) (by omega)
    have e5 : IntKind.wrap .i64 (((mid + m : Nat) : Int) - (s : Int)) = ((mid + m - s : Nat) : Int) := wN (by omega) (by omega)
    have hj2 := sm_j2 N (W.slices_symMergeCmpFunc_api_Packet_I N k) A1 B1 A2 B2 P R ((P.length + A.length : Nat) : Int) ((P.length + A.length + B.length : Nat) : Int) (mid : Int) ((mid + m : Nat) : Int) (s : Int) (P ++ A ++ B ++ R) (by omega) (by rw [e5]; omega) (by omega) (by omega)
      (fun q1 q2 V hV => by
        have := ih P A1 B1 V q1 q2 hsA1 hsB1 (by omega) (by simp only [List.length_append, big]; omega)
        exact this)
      (fun q1 q2 U hU => by
        have := ih U A2 B2 R q1 q2 hsA2 hsB2 (by omega) (by simp only [List.length_append, big]; omega)
        rw [hU] at this
        exact this)
    have hfin : P ++ mrg A B ++ R = P ++ mrg A1 B1 ++ mrg A2 B2 ++ R := by rw [hm]; simp
    have hdat : P ++ A ++ B ++ R = (P ++ A1) ++ A2 ++ B1 ++ (B2 ++ R) := by rw [hAs, hBs]; simp
    rw [hfin]
    simp only [W.slices_symMergeCmpFunc_api_Packet_S_j1, e2, e3, e4, s5, Option.bind_some, e5]
    by_cases hz2 : A2 = []
    · have c0 : ¬ (s : Int) < ((P.length + A.length : Nat) : Int) := by rw [hz2] at k2; simp at k2; omega
      simp only [c0, decide_false, show (false == true) = false from rfl, cond_false]
      have : P ++ A ++ B ++ R = P ++ A1 ++ B1 ++ A2 ++ B2 ++ R := by rw [hdat, hz2]; simp
      conv at hj2 => lhs; rw [← this]
      exact hj2
    · have c0 : (s : Int) < ((P.length + A.length : Nat) : Int) := by have := List.length_pos_iff.2 hz2; omega
      by_cases hz1 : B1 = []
      · have c1 : ¬ ((P.length + A.length : Nat) : Int) < ((mid + m - s : Nat) : Int) := by rw [hz1] at k3; simp at k3; omega
        simp only [c0, c1, decide_true, decide_false, beq_self_eq_true, cond_true, cond_false]
        have : P ++ A ++ B ++ R = P ++ A1 ++ B1 ++ A2 ++ B2 ++ R := by rw [hdat, hz1]; simp
        conv at hj2 => lhs; rw [← this]
        exact hj2
      · have c1 : ((P.length + A.length : Nat) : Int) < ((mid + m - s : Nat) : Int) := by have := List.length_pos_iff.2 hz1; omega
        have hrot := rotate_eq (N := N) (a := (s : Int)) (m := ((P.length + A.length : Nat) : Int)) (b := ((mid + m - s : Nat) : Int)) (P ++ A1) A2 B1 (B2 ++ R) hz2 hz1 (by simp; omega) (by simp; omega) (by simp; omega) hbig hN hdat
        simp only [c0, c1, decide_true, beq_self_eq_true, cond_true, hrot, Option.bind_some]
        have : P ++ A1 ++ B1 ++ A2 ++ (B2 ++ R) = P ++ A1 ++ B1 ++ A2 ++ B2 ++ R := by simp
        rw [this]
        exact hj2

theorem symMerge_eq {N : Nat} {a m b : Int} {l : List Pk} (P A B R : List Pk) (hA0 : A ≠ []) (hB0 : B ≠ []) (hA : Srt A) (hB : Srt B) (ha : a = (P.length : Int)) (hm : m = ((P.length + A.length : Nat) : Int)) (hb : b = ((P.length + A.length + B.length : Nat) : Int)) (hbig : l.length ≤ big) (hN : big < N)
    (hd : l = P ++ A ++ B ++ R) : W.slices_symMergeCmpFunc_api_Packet N ((a, (m, (b, ()))), (l, ())) = some ((), (P ++ mrg A B ++ R, ())) := by
  subst ha hm hb hd
  have hb2 := hbig
  simp only [List.length_append, big] at hb2 hN
  exact symMerge_I_eq N hN N P A B R hA0 hB0 hA hB (by omega) hbig
end Go.Proofs.YtgjmfljogaanfaaGreat.Pure
