/- The library's stable sorting, loop by loop. -/
import Derived.Test.YtgjmfljogaanfaaGreatPSrt
import Derived.Test.YtgjmfljogaanfaaGreatW0
namespace Go.Proofs.YtgjmfljogaanfaaGreat.Pure
open Go.Ev Go.RowKit

theorem cmp_lt (N : Nat) (a b : Pk) : ∃ r, W.chain_coming_1 N a b = some r ∧ (r < 0 ↔ key a < key b) := by
  simp only [W.chain_coming_1, W.cmp_Compare_int64, W.cmp_isNaN_int64, beq_self_eq_true, Bool.not_true, Option.bind_some, cond_false]
  by_cases h1 : key a < key b
  · exact ⟨-1, by simp [h1], by simp [h1]⟩
  · by_cases h2 : key b < key a
    · exact ⟨1, by simp [h1, h2], by simp [h1]⟩
    · exact ⟨0, by simp [h1, h2], by simp [h1]⟩

theorem wN {x : Int} {n : Nat} (h : x = (n : Int)) (hn : n ≤ 9223372036854775807) : IntKind.wrap .i64 x = (n : Int) := by rw [h]; exact wrapI64 (by omega) (by omega)

theorem half {x : Int} {n : Nat} (h : x = (n : Int)) (hn : n ≤ 9223372036854775807) : IntKind.wrap .i64 (Int.fdiv (IntKind.wrap .u64 (IntKind.wrap .i64 x)) 2) = ((n / 2 : Nat) : Int) := by
  rw [wN h hn, wrapU64 (by omega) (by omega), fdiv_pos (by omega)]
  exact wN (by omega) (by omega)

abbrev big : Nat := 1000000000

theorem swapRange_loop (N : Nat) (P Q R X Y : List Pk) (hl : X.length = Y.length) (hb : (P ++ X ++ Q ++ Y ++ R).length ≤ big) (hN : X.length < N) :
    iter (W.slices_swapRangeCmpFunc_api_Packet_L1 N) N (((P.length : Int), (((P.length + X.length + Q.length : Nat) : Int), ((X.length : Int), (0, ())))), (P ++ X ++ Q ++ Y ++ R, ())) = some ((), (P ++ Y ++ Q ++ X ++ R, ())) := by
  refine iter_some (fun x => ∃ X1 X2 Y1 Y2, X = X1 ++ X2 ∧ Y = Y1 ++ Y2 ∧ X1.length = Y1.length ∧ x = (((P.length : Int), (((P.length + X.length + Q.length : Nat) : Int), ((X.length : Int), ((X1.length : Int), ())))), (P ++ Y1 ++ X2 ++ Q ++ X1 ++ Y2 ++ R, ()))) (fun x => X.length - x.1.2.2.2.1.toNat) _ ?_ N _ ⟨[], X, [], Y, rfl, rfl, rfl, by simp⟩ (by simpa using hN)
  rintro F _ ⟨X1, X2, Y1, Y2, rfl, rfl, h1, rfl⟩
  simp only [List.length_append, big] at hl hb
  cases X2 with
  | nil =>
    have : Y2 = [] := List.eq_nil_of_length_eq_zero (by simp at hl; omega)
    subst this
    right
    simp [W.slices_swapRangeCmpFunc_api_Packet_L1]
  | cons u X2 =>
    cases Y2 with
    | nil => simp at hl; omega
    | cons v Y2 =>
      left
      simp only [List.length_cons] at hl hb
      have e1 : IntKind.wrap .i64 (((P.length + (X1 ++ u :: X2).length + Q.length : Nat) : Int) + (X1.length : Int)) = ((P.length + (X1 ++ u :: X2).length + Q.length + X1.length : Nat) : Int) := wN (by omega) (by simp; omega)
      have e2 : IntKind.wrap .i64 ((P.length : Int) + (X1.length : Int)) = ((P.length + X1.length : Nat) : Int) := wN (by omega) (by omega)
      have e3 : IntKind.wrap .i64 ((X1.length : Int) + 1) = ((X1.length + 1 : Nat) : Int) := wN (by omega) (by omega)
      have hd : P ++ Y1 ++ (u :: X2) ++ Q ++ X1 ++ (v :: Y2) ++ R = (P ++ Y1) ++ u :: (X2 ++ Q ++ X1) ++ v :: (Y2 ++ R) := by simp
      have hi : P.length + X1.length = (P ++ Y1).length := by simp [h1]
      have hj : P.length + (X1 ++ u :: X2).length + Q.length + X1.length = (P ++ Y1).length + 1 + (X2 ++ Q ++ X1).length := by simp; omega
      have hlen : ((P ++ Y1) ++ u :: (X2 ++ Q ++ X1) ++ v :: (Y2 ++ R)).length = P.length + Y1.length + 1 + (X2.length + Q.length + X1.length) + 1 + (Y2.length + R.length) := by simp; omega
      refine ⟨_, ⟨X1 ++ [u], X2, Y1 ++ [v], Y2, by simp, by simp, by simp [h1], rfl⟩, ?_, ?_⟩
      · simp; omega
      · have c0 : ((X1.length : Int) < ((X1 ++ u :: X2).length : Int)) := by simp; omega
        have c1 : ((P.length + (X1 ++ u :: X2).length + Q.length + X1.length : Nat) : Int) < (((P ++ Y1) ++ u :: (X2 ++ Q ++ X1) ++ v :: (Y2 ++ R)).length : Int) := by rw [hlen]; simp; omega
        have c2 : ((P.length + X1.length : Nat) : Int) < (((P ++ Y1) ++ u :: (X2 ++ Q ++ X1) ++ v :: (Y2 ++ R)).length : Int) := by rw [hlen]; simp; omega
        simp only [W.slices_swapRangeCmpFunc_api_Packet_L1, hd, e1, e2, e3, List.length_set, c0, c1, c2, Int.natCast_nonneg, decide_true, Bool.and_true, cond_true, Int.toNat_natCast]
        rw [swapG hi hj]
        simp

theorem swapRange_eq {N : Nat} {a b n : Int} {l : List Pk} (P X Q Y R : List Pk) (ha : a = (P.length : Int)) (hb : b = ((P.length + X.length + Q.length : Nat) : Int)) (hn : n = (X.length : Int)) (hl : X.length = Y.length) (hbig : (P ++ X ++ Q ++ Y ++ R).length ≤ big) (hN : X.length < N)
    (hd : l = P ++ X ++ Q ++ Y ++ R) : W.slices_swapRangeCmpFunc_api_Packet N ((a, (b, (n, ()))), (l, ())) = some ((), (P ++ Y ++ Q ++ X ++ R, ())) := by
  subst ha hb hn hd
  simp only [W.slices_swapRangeCmpFunc_api_Packet, swapRange_loop N P Q R X Y hl hbig hN, Option.bind_some]

theorem rotate_loop (N : Nat) (m : Nat) (T : List Pk) (hT : T.length ≤ big) (hN : big < N) (P X Y R : List Pk) (hX : X ≠ []) (hY : Y ≠ []) (hm : P.length + X.length = m) (he : P ++ Y ++ X ++ R = T) :
    ∃ z, (∃ P' X' Y' R', P' ++ Y' ++ X' ++ R' = T ∧ X'.length = Y'.length ∧ P'.length + X'.length = m ∧ z = (((m : Int), ((X'.length : Int), ())), (P' ++ X' ++ Y' ++ R', ()))) ∧
      iter (W.slices_rotateCmpFunc_api_Packet_L2 N) N (((m : Int), ((X.length : Int), ((Y.length : Int), ()))), (P ++ X ++ Y ++ R, ())) = some z := by
  refine iter_done (fun x => ∃ P' X' Y' R', P' ++ Y' ++ X' ++ R' = T ∧ X' ≠ [] ∧ Y' ≠ [] ∧ P'.length + X'.length = m ∧ x = (((m : Int), ((X'.length : Int), ((Y'.length : Int), ()))), (P' ++ X' ++ Y' ++ R', ()))) (fun x => x.1.2.1.toNat + x.1.2.2.1.toNat) _ ?_ N _ ⟨P, X, Y, R, he, hX, hY, hm, rfl⟩ ?_
  · rintro F _ ⟨P', X', Y', R', rfl, hX', hY', rfl, rfl⟩
    simp only [List.length_append, big] at hT hN
    have hx0 := List.length_pos_iff.2 hX'
    have hy0 := List.length_pos_iff.2 hY'
    have e1 : IntKind.wrap .i64 (((P'.length + X'.length : Nat) : Int) - (X'.length : Int)) = (P'.length : Int) := wN (by omega) (by omega)
    by_cases heq : X'.length = Y'.length
    · right
      refine ⟨_, ⟨P', X', Y', R', rfl, heq, rfl, rfl⟩, ?_⟩
      simp [W.slices_rotateCmpFunc_api_Packet_L2, heq]
    · left
      have c0 : ((X'.length : Int) == (Y'.length : Int)) = false := by simp; omega
      by_cases hlt : Y'.length < X'.length
      · obtain ⟨X1, X2, rfl, h1⟩ : ∃ X1 X2, X' = X1 ++ X2 ∧ X1.length = Y'.length := ⟨X'.take Y'.length, X'.drop Y'.length, (List.take_append_drop _ _).symm, by simp; omega⟩
        simp only [List.length_append] at hT hlt heq e1 c0 hx0
        have e2 : IntKind.wrap .i64 (((X1.length + X2.length : Nat) : Int) - (Y'.length : Int)) = (X2.length : Int) := wN (by omega) (by omega)
        have c1 : ((Y'.length : Int) < ((X1.length + X2.length : Nat) : Int)) := by omega
        refine ⟨_, ⟨P' ++ Y', X2, X1, R', by simp, by rintro rfl; simp at hlt; omega, by rintro rfl; simp at h1; omega, by simp; omega, rfl⟩, ?_, ?_⟩
        · simp; omega
        · have hs := swapRange_eq (N := N) (a := (P'.length : Int)) (b := ((P'.length + (X1.length + X2.length) : Nat) : Int)) (n := (Y'.length : Int)) (l := P' ++ (X1 ++ X2) ++ Y' ++ R') P' X1 X2 Y' R' rfl (by omega) (by omega) h1 (by simp [big]; omega) (by omega) (by simp)
          simp only [W.slices_rotateCmpFunc_api_Packet_L2, List.length_append, e1, e2, c0, c1, hs, Bool.not_false, cond_true, decide_true, Option.bind_some]
          simp [h1]
      · obtain ⟨Y1, Y2, rfl, h1⟩ : ∃ Y1 Y2, Y' = Y1 ++ Y2 ∧ Y2.length = X'.length := ⟨Y'.take (Y'.length - X'.length), Y'.drop (Y'.length - X'.length), (List.take_append_drop _ _).symm, by simp; omega⟩
        simp only [List.length_append] at hT hlt heq c0 hy0
        have e2 : IntKind.wrap .i64 (((Y1.length + Y2.length : Nat) : Int) - (X'.length : Int)) = (Y1.length : Int) := wN (by omega) (by omega)
        have e3 : IntKind.wrap .i64 (((P'.length + X'.length : Nat) : Int) + ((Y1.length + Y2.length : Nat) : Int)) = ((P'.length + X'.length + (Y1.length + Y2.length) : Nat) : Int) := wN (by omega) (by omega)
        have e4 : IntKind.wrap .i64 (((P'.length + X'.length + (Y1.length + Y2.length) : Nat) : Int) - (X'.length : Int)) = ((P'.length + X'.length + Y1.length : Nat) : Int) := wN (by omega) (by omega)
        have c1 : ¬ (((Y1.length + Y2.length : Nat) : Int) < (X'.length : Int)) := by omega
        refine ⟨_, ⟨P', Y2, Y1, X' ++ R', by simp, by rintro rfl; simp at h1; omega, by rintro rfl; simp at hlt heq; omega, by omega, rfl⟩, ?_, ?_⟩
        · simp; omega
        · have hs := swapRange_eq (N := N) (a := (P'.length : Int)) (b := ((P'.length + X'.length + Y1.length : Nat) : Int)) (n := (X'.length : Int)) (l := P' ++ X' ++ (Y1 ++ Y2) ++ R') P' X' Y1 Y2 R' rfl rfl rfl h1.symm (by simp [big]; omega) (by omega) (by simp)
          simp only [W.slices_rotateCmpFunc_api_Packet_L2, List.length_append, e1, e2, e3, e4, c0, c1, hs, Bool.not_false, cond_true, decide_false, cond_false, Option.bind_some]
          simp [h1]
  · have := congrArg List.length he
    simp only [List.length_append] at this
    simp only [Int.toNat_natCast, big] at *
    omega

theorem rotate_eq {N : Nat} {a m b : Int} {l : List Pk} (P X Y R : List Pk) (hX : X ≠ []) (hY : Y ≠ []) (ha : a = (P.length : Int)) (hm : m = ((P.length + X.length : Nat) : Int)) (hb : b = ((P.length + X.length + Y.length : Nat) : Int)) (hbig : l.length ≤ big) (hN : big < N)
    (hd : l = P ++ X ++ Y ++ R) : W.slices_rotateCmpFunc_api_Packet N ((a, (m, (b, ()))), (l, ())) = some ((), (P ++ Y ++ X ++ R, ())) := by
  subst ha hm hb hd
  simp only [List.length_append, big] at hbig hN
  have e1 : IntKind.wrap .i64 (((P.length + X.length : Nat) : Int) - (P.length : Int)) = (X.length : Int) := wN (by omega) (by omega)
  have e2 : IntKind.wrap .i64 (((P.length + X.length + Y.length : Nat) : Int) - ((P.length + X.length : Nat) : Int)) = (Y.length : Int) := wN (by omega) (by omega)
  obtain ⟨z, ⟨P', X', Y', R', h1, h2, h3, rfl⟩, h4⟩ := rotate_loop N (P.length + X.length) _ (by simp [big]; omega) hN P X Y R hX hY rfl rfl
  have hl := congrArg List.length h1
  simp only [List.length_append] at hl
  have e3 : IntKind.wrap .i64 (((P.length + X.length : Nat) : Int) - (X'.length : Int)) = (P'.length : Int) := wN (by omega) (by omega)
  have hs := swapRange_eq (N := N) (a := (P'.length : Int)) (b := ((P.length + X.length : Nat) : Int)) (n := (X'.length : Int)) (l := P' ++ X' ++ Y' ++ R') P' X' [] Y' R' rfl (by simp; omega) rfl h2 (by simp [big]; omega) (by omega) (by simp)
  simp only [W.slices_rotateCmpFunc_api_Packet, e1, e2, e3, h4, hs, Option.bind_some]
  rw [← h1]
  simp

theorem insert_loop (N : Nat) (b i : Int) (P S R : List Pk) (p : Pk) (hS : Srt S) (hbig : (P ++ S ++ p :: R).length ≤ big) (hN : big < N) :
    iter (W.slices_insertionSortCmpFunc_api_Packet_L4 N) N (((P.length : Int), (b, (i, (((P.length + S.length : Nat) : Int), ())))), (P ++ S ++ p :: R, ())) = some (((P.length : Int), (b, (i, ()))), (P ++ ins p S ++ R, ())) := by
  refine iter_some (fun x => ∃ S1 S2, S = S1 ++ S2 ∧ (∀ q, q ∈ S2 → key p < key q) ∧ x = (((P.length : Int), (b, (i, (((P.length + S1.length : Nat) : Int), ())))), (P ++ S1 ++ p :: S2 ++ R, ()))) (fun x => x.1.2.2.2.1.toNat) _ ?_ N _ ⟨S, [], by simp, by simp, by simp⟩ ?_
  · rintro F _ ⟨S1, S2, rfl, h2, rfl⟩
    simp only [List.length_append, List.length_cons, big] at hbig hN
    have hh : ∀ q, S2.head? = some q → key p < key q := fun q hq => h2 q (List.mem_of_head? hq)
    by_cases h0 : S1 = []
    · subst h0
      right
      have : ins p ([] ++ S2) = [] ++ p :: S2 := ins_split p [] S2 (by simp) hh
      rw [this]
      simp [W.slices_insertionSortCmpFunc_api_Packet_L4]
    · obtain ⟨Z, z, rfl⟩ : ∃ Z z, S1 = Z ++ [z] := ⟨_, _, (List.dropLast_concat_getLast h0).symm⟩
      simp only [List.length_append, List.length_cons, List.length_nil] at hbig
      have hd : P ++ (Z ++ [z]) ++ p :: S2 ++ R = (P ++ Z) ++ z :: [] ++ p :: (S2 ++ R) := by simp
      have hi : P.length + Z.length = (P ++ Z).length := by simp
      have hj : P.length + (Z ++ [z]).length = (P ++ Z).length + 1 + ([] : List Pk).length := by simp; omega
      have e1 : IntKind.wrap .i64 (((P.length + (Z ++ [z]).length : Nat) : Int) - 1) = ((P.length + Z.length : Nat) : Int) := wN (by simp; omega) (by omega)
      have hlen : ((P ++ Z) ++ z :: [] ++ p :: (S2 ++ R)).length = P.length + Z.length + 1 + (S2.length + R.length + 1) := by simp; omega
      have c0 : (P.length : Int) < ((P.length + (Z ++ [z]).length : Nat) : Int) := by simp; omega
      have c1 : ((P.length + (Z ++ [z]).length : Nat) : Int) < (((P ++ Z) ++ z :: [] ++ p :: (S2 ++ R)).length : Int) := by rw [hlen]; simp; omega
      have c2 : ((P.length + Z.length : Nat) : Int) < (((P ++ Z) ++ z :: [] ++ p :: (S2 ++ R)).length : Int) := by rw [hlen]; simp; omega
      obtain ⟨r, hr, hlt⟩ := cmp_lt N p z
      have hsrt := List.pairwise_append.1 hS
      have hs1 := List.pairwise_append.1 hsrt.1
      by_cases hc : key p < key z
      · left
        refine ⟨_, ⟨Z, z :: S2, by simp, fun q hq => ?_, rfl⟩, ?_, ?_⟩
        · simp only [List.mem_cons] at hq
          rcases hq with rfl | hq
          · exact hc
          · exact h2 q hq
        · simp; omega
        · have c3 := hlt.2 hc
          simp only [W.slices_insertionSortCmpFunc_api_Packet_L4, hd, e1, List.length_set, c0, c1, c2, Int.natCast_nonneg, decide_true, Bool.and_true, beq_self_eq_true, cond_true, Int.toNat_natCast]
          rw [getA2 hi, getB hj, hr]
          simp only [Option.bind_some, c3, decide_true, cond_true]
          have hsw := swapG' (U := P ++ Z) (V := []) (W := S2 ++ R) (x := z) (y := p) hi hj
          rw [getA2 hi, getB hj] at hsw
          rw [hsw]
          simp
      · right
        have c3 : ¬ r < 0 := fun h => hc (hlt.1 h)
        have hins : ins p (Z ++ [z] ++ S2) = Z ++ [z] ++ p :: S2 := ins_split p (Z ++ [z]) S2 (fun q hq => by
          simp only [List.mem_append, List.mem_singleton] at hq
          rcases hq with hq | rfl
          · have := hs1.2.2 q hq z (by simp); omega
          · omega) hh
        rw [hins]
        simp only [W.slices_insertionSortCmpFunc_api_Packet_L4, hd, e1, c0, c1, c2, Int.natCast_nonneg, decide_true, Bool.and_true, beq_self_eq_true, cond_true, Int.toNat_natCast]
        rw [getA2 hi, getB hj, hr]
        simp only [Option.bind_some, c3, decide_false, cond_false]
        simp
  · simp only [List.length_append, List.length_cons, big] at *
    simp only [Int.toNat_natCast]; omega

theorem insertion_loop (N : Nat) (P X R : List Pk) (hbig : (P ++ X ++ R).length ≤ big) (hN : big < N) (x0 : Pk) (X0 : List Pk) (hX : X = x0 :: X0) :
    iter (W.slices_insertionSortCmpFunc_api_Packet_L1 N) N (((P.length : Int), (((P.length + X.length : Nat) : Int), (((P.length + 1 : Nat) : Int), ()))), (P ++ X ++ R, ())) = some ((), (P ++ isort X ++ R, ())) := by
  refine iter_some (fun x => ∃ X1 X2, X = X1 ++ X2 ∧ x = (((P.length : Int), (((P.length + X.length : Nat) : Int), (((P.length + X1.length : Nat) : Int), ()))), (P ++ isort X1 ++ X2 ++ R, ()))) (fun x => P.length + X.length - x.1.2.2.1.toNat) _ ?_ N _ ⟨[x0], X0, by simp [hX], by simp [isort, ins, hX]⟩ ?_
  · rintro F _ ⟨X1, X2, rfl, rfl⟩
    simp only [List.length_append, big] at hbig hN
    cases X2 with
    | nil => right; simp [W.slices_insertionSortCmpFunc_api_Packet_L1]
    | cons p X2 =>
      left
      simp only [List.length_cons] at hbig
      have e1 : IntKind.wrap .i64 (((P.length + X1.length : Nat) : Int) + 1) = ((P.length + (X1 ++ [p]).length : Nat) : Int) := wN (by simp; omega) (by simp; omega)
      have c0 : ((P.length + X1.length : Nat) : Int) < ((P.length + (X1 ++ p :: X2).length : Nat) : Int) := by simp; omega
      have hl := insert_loop N ((P.length + (X1 ++ p :: X2).length : Nat) : Int) ((P.length + X1.length : Nat) : Int) P (isort X1) (X2 ++ R) p (srt_isort X1) (by simp [isort_length, big]; omega) hN
      rw [isort_length] at hl
      have hd : P ++ isort X1 ++ p :: X2 ++ R = P ++ isort X1 ++ p :: (X2 ++ R) := by simp
      refine ⟨_, ⟨X1 ++ [p], X2, by simp, rfl⟩, ?_, ?_⟩
      · simp; omega
      · simp only [W.slices_insertionSortCmpFunc_api_Packet_L1, c0, decide_true, cond_true, hd, hl, Option.bind_some, e1]
        rw [isort_snoc]
        simp
  · simp only [List.length_append, big] at *
    simp only [Int.toNat_natCast]; omega

theorem insertion_eq {N : Nat} {a b : Int} {l : List Pk} (P X R : List Pk) (ha : a = (P.length : Int)) (hb : b = ((P.length + X.length : Nat) : Int)) (hbig : l.length ≤ big) (hN : big < N) (hd : l = P ++ X ++ R) :
    W.slices_insertionSortCmpFunc_api_Packet N ((a, (b, ())), (l, ())) = some ((), (P ++ isort X ++ R, ())) := by
  subst ha hb hd
  have hb2 := hbig
  simp only [List.length_append, big] at hb2 hN
  have e1 : IntKind.wrap .i64 ((P.length : Int) + 1) = ((P.length + 1 : Nat) : Int) := wN (by omega) (by omega)
  cases X with
  | nil =>
    obtain ⟨n, rfl⟩ : ∃ n, N = n + 1 := ⟨N - 1, by omega⟩
    have c0 : ¬ ((P.length + 1 : Nat) : Int) < ((P.length + ([] : List Pk).length : Nat) : Int) := by simp; omega
    simp only [W.slices_insertionSortCmpFunc_api_Packet, e1, iter, W.slices_insertionSortCmpFunc_api_Packet_L1, c0, decide_false, cond_false, Option.bind_some]
    simp [isort]
  | cons x0 X0 =>
    have := insertion_loop N P (x0 :: X0) R hbig hN x0 X0 rfl
    simp only [W.slices_insertionSortCmpFunc_api_Packet, e1, this, Option.bind_some]

/-- Halving finds the place where what was so is so no more. -/
theorem bsearch {X Y : Type} {round : (X → Option Y) → X → Option Y} (put : Nat → Nat → X) (out : Nat → Y) (P : Nat → Prop) (lo hi : Nat) (hmono : ∀ c d, lo ≤ c → c ≤ d → d < hi → P d → P c)
    (hend : ∀ F i, round F (put i i) = some (out i))
    (hstep : ∀ F i j, lo ≤ i → i < j → j ≤ hi → (P ((i + j) / 2) ∧ round F (put i j) = F (put ((i + j) / 2 + 1) j)) ∨ (¬ P ((i + j) / 2) ∧ round F (put i j) = F (put i ((i + j) / 2)))) :
    ∀ (N i j : Nat), lo ≤ i → i ≤ j → j ≤ hi → (∀ c, lo ≤ c → c < i → P c) → (∀ c, j ≤ c → c < hi → ¬ P c) → j - i < N →
      ∃ s, i ≤ s ∧ s ≤ j ∧ (∀ c, lo ≤ c → c < s → P c) ∧ (∀ c, s ≤ c → c < hi → ¬ P c) ∧ iter round N (put i j) = some (out s)
  | 0, _, _, _, _, _, _, _, h => absurd h (Nat.not_lt_zero _)
  | N + 1, i, j, h1, h2, h3, h4, h5, h6 => by
    by_cases he : i = j
    · subst he
      exact ⟨i, Nat.le_refl _, Nat.le_refl _, h4, h5, hend _ i⟩
    · rcases hstep (iter round N) i j h1 (by omega) h3 with ⟨q1, q2⟩ | ⟨q1, q2⟩
      · obtain ⟨s, w1, w2, w3, w4, w5⟩ := bsearch put out P lo hi hmono hend hstep N ((i + j) / 2 + 1) j (by omega) (by omega) h3 (fun c hc hc' => hmono c ((i + j) / 2) hc (by omega) (by omega) q1) h5 (by omega)
        exact ⟨s, by omega, w2, w3, w4, q2.trans w5⟩
      · obtain ⟨s, w1, w2, w3, w4, w5⟩ := bsearch put out P lo hi hmono hend hstep N i ((i + j) / 2) h1 (by omega) (by omega) h4 (fun c hc hc' hP => q1 (hmono ((i + j) / 2) c (by omega) hc hc' hP)) (by omega)
        exact ⟨s, w1, by omega, w3, w4, q2.trans w5⟩

theorem search3 (N : Nat) (l : List Pk) (a lo hi : Nat) (hlo : lo ≤ hi) (hhi : hi ≤ l.length) (ha : a < l.length) (hbig : l.length ≤ big) (hN : big < N)
    (hmono : ∀ c d, lo ≤ c → c ≤ d → d < hi → key (l.getD d pk0) < key (l.getD a pk0) → key (l.getD c pk0) < key (l.getD a pk0)) :
    ∃ s, lo ≤ s ∧ s ≤ hi ∧ (∀ c, lo ≤ c → c < s → key (l.getD c pk0) < key (l.getD a pk0)) ∧ (∀ c, s ≤ c → c < hi → ¬ key (l.getD c pk0) < key (l.getD a pk0)) ∧
      iter (W.slices_symMergeCmpFunc_api_Packet_L3 N) N (((a : Int), ((lo : Int), ((hi : Int), ()))), (l, ())) = some (((a : Int), ((s : Int), ())), (l, ())) := by
  simp only [big] at hbig hN
  refine bsearch (fun i j => (((a : Int), ((i : Int), ((j : Int), ()))), (l, ()))) (fun s => (((a : Int), ((s : Int), ())), (l, ()))) (fun c => key (l.getD c pk0) < key (l.getD a pk0)) lo hi hmono (fun F i => by simp [W.slices_symMergeCmpFunc_api_Packet_L3]) (fun F i j h1 h2 h3 => ?_) N lo hi (Nat.le_refl _) hlo (Nat.le_refl _) (fun c _ _ => by omega) (fun c _ _ => by omega) (by omega)
  have e1 : IntKind.wrap .i64 (Int.fdiv (IntKind.wrap .u64 (IntKind.wrap .i64 ((i : Int) + (j : Int)))) 2) = (((i + j) / 2 : Nat) : Int) := half (by omega) (by omega)
  have e2 : IntKind.wrap .i64 ((((i + j) / 2 : Nat) : Int) + 1) = (((i + j) / 2 + 1 : Nat) : Int) := wN (by omega) (by omega)
  have c0 : (i : Int) < (j : Int) := by omega
  have c1 : (((i + j) / 2 : Nat) : Int) < (l.length : Int) := by omega
  have c2 : (a : Int) < (l.length : Int) := by omega
  obtain ⟨r, hr, hlt⟩ := cmp_lt N (l.getD ((i + j) / 2) pk0) (l.getD a pk0)
  by_cases hc : key (l.getD ((i + j) / 2) pk0) < key (l.getD a pk0)
  · refine .inl ⟨hc, ?_⟩
    have c3 := hlt.2 hc
    simp only [W.slices_symMergeCmpFunc_api_Packet_L3, e1, e2, c0, c1, c2, Int.natCast_nonneg, decide_true, Bool.and_true, cond_true, Int.toNat_natCast, hr, Option.bind_some, c3]
  · refine .inr ⟨hc, ?_⟩
    have c3 : ¬ r < 0 := fun h => hc (hlt.1 h)
    simp only [W.slices_symMergeCmpFunc_api_Packet_L3, e1, e2, c0, c1, c2, Int.natCast_nonneg, decide_true, Bool.and_true, cond_true, Int.toNat_natCast, hr, Option.bind_some, c3, decide_false, cond_false]

theorem search15 (N : Nat) (l : List Pk) (a lo hi : Nat) (hlo : lo ≤ hi) (hhi : hi ≤ l.length) (ha : a < l.length) (hbig : l.length ≤ big) (hN : big < N)
    (hmono : ∀ c d, lo ≤ c → c ≤ d → d < hi → ¬ key (l.getD a pk0) < key (l.getD d pk0) → ¬ key (l.getD a pk0) < key (l.getD c pk0)) :
    ∃ s, lo ≤ s ∧ s ≤ hi ∧ (∀ c, lo ≤ c → c < s → ¬ key (l.getD a pk0) < key (l.getD c pk0)) ∧ (∀ c, s ≤ c → c < hi → ¬ ¬ key (l.getD a pk0) < key (l.getD c pk0)) ∧
      iter (W.slices_symMergeCmpFunc_api_Packet_L15 N) N (((a : Int), ((lo : Int), ((hi : Int), ()))), (l, ())) = some (((a : Int), ((s : Int), ())), (l, ())) := by
  simp only [big] at hbig hN
  refine bsearch (fun i j => (((a : Int), ((i : Int), ((j : Int), ()))), (l, ()))) (fun s => (((a : Int), ((s : Int), ())), (l, ()))) (fun c => ¬ key (l.getD a pk0) < key (l.getD c pk0)) lo hi hmono (fun F i => by simp [W.slices_symMergeCmpFunc_api_Packet_L15]) (fun F i j h1 h2 h3 => ?_) N lo hi (Nat.le_refl _) hlo (Nat.le_refl _) (fun c _ _ => by omega) (fun c _ _ => by omega) (by omega)
  have e1 : IntKind.wrap .i64 (Int.fdiv (IntKind.wrap .u64 (IntKind.wrap .i64 ((i : Int) + (j : Int)))) 2) = (((i + j) / 2 : Nat) : Int) := half (by omega) (by omega)
  have e2 : IntKind.wrap .i64 ((((i + j) / 2 : Nat) : Int) + 1) = (((i + j) / 2 + 1 : Nat) : Int) := wN (by omega) (by omega)
  have c0 : (i : Int) < (j : Int) := by omega
  have c1 : (((i + j) / 2 : Nat) : Int) < (l.length : Int) := by omega
  have c2 : (a : Int) < (l.length : Int) := by omega
  obtain ⟨r, hr, hlt⟩ := cmp_lt N (l.getD a pk0) (l.getD ((i + j) / 2) pk0)
  by_cases hc : key (l.getD a pk0) < key (l.getD ((i + j) / 2) pk0)
  · refine .inr ⟨fun h => h hc, ?_⟩
    have c3 := hlt.2 hc
    simp only [W.slices_symMergeCmpFunc_api_Packet_L15, e1, e2, c0, c1, c2, Int.natCast_nonneg, decide_true, Bool.and_true, cond_true, Int.toNat_natCast, hr, Option.bind_some, c3, Bool.not_true, cond_false]
  · refine .inl ⟨hc, ?_⟩
    have c3 : ¬ r < 0 := fun h => hc (hlt.1 h)
    simp only [W.slices_symMergeCmpFunc_api_Packet_L15, e1, e2, c0, c1, c2, Int.natCast_nonneg, decide_true, Bool.and_true, cond_true, Int.toNat_natCast, hr, Option.bind_some, c3, decide_false, Bool.not_false]

theorem search33 (N : Nat) (l : List Pk) (a m b mid n : Int) (p lo hi : Nat) (hlo : lo ≤ hi) (hhi : hi ≤ l.length) (hp : hi ≤ p + 1) (hpl : p - lo < l.length) (hpb : p ≤ 2 * big) (hbig : l.length ≤ big) (hN : big < N)
    (hmono : ∀ c d, lo ≤ c → c ≤ d → d < hi → ¬ key (l.getD (p - d) pk0) < key (l.getD d pk0) → ¬ key (l.getD (p - c) pk0) < key (l.getD c pk0)) :
    ∃ s, lo ≤ s ∧ s ≤ hi ∧ (∀ c, lo ≤ c → c < s → ¬ key (l.getD (p - c) pk0) < key (l.getD c pk0)) ∧ (∀ c, s ≤ c → c < hi → ¬ ¬ key (l.getD (p - c) pk0) < key (l.getD c pk0)) ∧
      iter (W.slices_symMergeCmpFunc_api_Packet_L33 N) N ((a, (m, (b, (mid, (n, ((lo : Int), ((hi : Int), ((p : Int), ())))))))), (l, ())) = some ((a, (m, (b, (mid, (n, ((s : Int), ())))))), (l, ())) := by
  simp only [big] at hbig hN hpb
  refine bsearch (fun i j => ((a, (m, (b, (mid, (n, ((i : Int), ((j : Int), ((p : Int), ())))))))), (l, ()))) (fun s => ((a, (m, (b, (mid, (n, ((s : Int), ())))))), (l, ()))) (fun c => ¬ key (l.getD (p - c) pk0) < key (l.getD c pk0)) lo hi hmono (fun F i => by simp [W.slices_symMergeCmpFunc_api_Packet_L33]) (fun F i j h1 h2 h3 => ?_) N lo hi (Nat.le_refl _) hlo (Nat.le_refl _) (fun c _ _ => by omega) (fun c _ _ => by omega) (by omega)
  have e1 : IntKind.wrap .i64 (Int.fdiv (IntKind.wrap .u64 (IntKind.wrap .i64 ((i : Int) + (j : Int)))) 2) = (((i + j) / 2 : Nat) : Int) := half (by omega) (by omega)
  have e2 : IntKind.wrap .i64 ((((i + j) / 2 : Nat) : Int) + 1) = (((i + j) / 2 + 1 : Nat) : Int) := wN (by omega) (by omega)
  have e3 : IntKind.wrap .i64 ((p : Int) - (((i + j) / 2 : Nat) : Int)) = ((p - (i + j) / 2 : Nat) : Int) := wN (by omega) (by omega)
  have c0 : (i : Int) < (j : Int) := by omega
  have c1 : (((i + j) / 2 : Nat) : Int) < (l.length : Int) := by omega
  have c2 : ((p - (i + j) / 2 : Nat) : Int) < (l.length : Int) := by omega
  obtain ⟨r, hr, hlt⟩ := cmp_lt N (l.getD (p - (i + j) / 2) pk0) (l.getD ((i + j) / 2) pk0)
  by_cases hc : key (l.getD (p - (i + j) / 2) pk0) < key (l.getD ((i + j) / 2) pk0)
  · refine .inr ⟨fun h => h hc, ?_⟩
    have c3 := hlt.2 hc
    simp only [W.slices_symMergeCmpFunc_api_Packet_L33, e1, e2, e3, c0, c1, c2, Int.natCast_nonneg, decide_true, Bool.and_true, cond_true, Int.toNat_natCast, hr, Option.bind_some, c3, Bool.not_true, cond_false]
  · refine .inl ⟨hc, ?_⟩
    have c3 : ¬ r < 0 := fun h => hc (hlt.1 h)
    simp only [W.slices_symMergeCmpFunc_api_Packet_L33, e1, e2, e3, c0, c1, c2, Int.natCast_nonneg, decide_true, Bool.and_true, cond_true, Int.toNat_natCast, hr, Option.bind_some, c3, decide_false, Bool.not_false]

/-- One element goes right, step by step. -/
theorem shift_right (N : Nat) (P Y R : List Pk) (x : Pk) (i : Int) (hi : i = ((P.length + 1 + Y.length : Nat) : Int)) (hbig : (P ++ x :: Y ++ R).length ≤ big) (hN : big < N) :
    iter (W.slices_symMergeCmpFunc_api_Packet_L9 N) N ((i, ((P.length : Int), ())), (P ++ x :: Y ++ R, ())) = some ((), (P ++ Y ++ x :: R, ())) := by
  subst hi
  refine iter_some (fun z => ∃ Y1 Y2, Y = Y1 ++ Y2 ∧ z = ((((P.length + 1 + Y.length : Nat) : Int), (((P.length + Y1.length : Nat) : Int), ())), (P ++ Y1 ++ x :: Y2 ++ R, ()))) (fun z => P.length + Y.length - z.1.2.1.toNat) _ ?_ N _ ⟨[], Y, rfl, by simp⟩ ?_
  · rintro F _ ⟨Y1, Y2, rfl, rfl⟩
    simp only [List.length_append, List.length_cons, big] at hbig hN
    have e0 : IntKind.wrap .i64 (((P.length + 1 + (Y1 ++ Y2).length : Nat) : Int) - 1) = ((P.length + (Y1 ++ Y2).length : Nat) : Int) := wN (by omega) (by simp; omega)
    cases Y2 with
    | nil =>
      right
      have c0 : ¬ ((P.length + Y1.length : Nat) : Int) < ((P.length + (Y1 ++ []).length : Nat) : Int) := by simp
      simp only [W.slices_symMergeCmpFunc_api_Packet_L9, e0, c0, decide_false, cond_false]
      simp
    | cons y Y2 =>
      left
      simp only [List.length_cons] at hbig
      have e1 : IntKind.wrap .i64 (((P.length + Y1.length : Nat) : Int) + 1) = ((P.length + (Y1 ++ [y]).length : Nat) : Int) := wN (by simp; omega) (by simp; omega)
      have hd : P ++ Y1 ++ x :: (y :: Y2) ++ R = (P ++ Y1) ++ x :: [] ++ y :: (Y2 ++ R) := by simp
      have hi : P.length + Y1.length = (P ++ Y1).length := by simp
      have hj : P.length + (Y1 ++ [y]).length = (P ++ Y1).length + 1 + ([] : List Pk).length := by simp; omega
      have hlen : ((P ++ Y1) ++ x :: [] ++ y :: (Y2 ++ R)).length = P.length + Y1.length + 1 + (Y2.length + R.length + 1) := by simp; omega
      have c0 : ((P.length + Y1.length : Nat) : Int) < ((P.length + (Y1 ++ y :: Y2).length : Nat) : Int) := by simp; omega
      have c1 : ((P.length + (Y1 ++ [y]).length : Nat) : Int) < (((P ++ Y1) ++ x :: [] ++ y :: (Y2 ++ R)).length : Int) := by rw [hlen]; simp; omega
      have c2 : ((P.length + Y1.length : Nat) : Int) < (((P ++ Y1) ++ x :: [] ++ y :: (Y2 ++ R)).length : Int) := by rw [hlen]; simp; omega
      refine ⟨_, ⟨Y1 ++ [y], Y2, by simp, rfl⟩, ?_, ?_⟩
      · simp; omega
      · simp only [W.slices_symMergeCmpFunc_api_Packet_L9, hd, e0, e1, List.length_set, c0, c1, c2, Int.natCast_nonneg, decide_true, Bool.and_true, cond_true, Int.toNat_natCast]
        rw [swapG hi hj]
        simp
  · simp only [List.length_append, List.length_cons, big] at *
    simp only [Int.toNat_natCast]; omega

/-- One element goes left, step by step. -/
theorem shift_left (N : Nat) (P Y R : List Pk) (x : Pk) (i : Int) (hi : i = (P.length : Int)) (hbig : (P ++ Y ++ x :: R).length ≤ big) (hN : big < N) :
    iter (W.slices_symMergeCmpFunc_api_Packet_L21 N) N ((i, (((P.length + Y.length : Nat) : Int), ())), (P ++ Y ++ x :: R, ())) = some ((), (P ++ x :: Y ++ R, ())) := by
  subst hi
  refine iter_some (fun z => ∃ Y1 Y2, Y = Y1 ++ Y2 ∧ z = (((P.length : Int), (((P.length + Y1.length : Nat) : Int), ())), (P ++ Y1 ++ x :: Y2 ++ R, ()))) (fun z => z.1.2.1.toNat) _ ?_ N _ ⟨Y, [], by simp, by simp⟩ ?_
  · rintro F _ ⟨Y1, Y2, rfl, rfl⟩
    simp only [List.length_append, List.length_cons, big] at hbig hN
    by_cases h0 : Y1 = []
    · subst h0
      right
      simp [W.slices_symMergeCmpFunc_api_Packet_L21]
    · obtain ⟨Z, z, rfl⟩ : ∃ Z z, Y1 = Z ++ [z] := ⟨_, _, (List.dropLast_concat_getLast h0).symm⟩
      left
      simp only [List.length_append, List.length_cons, List.length_nil] at hbig
      have hd : P ++ (Z ++ [z]) ++ x :: Y2 ++ R = (P ++ Z) ++ z :: [] ++ x :: (Y2 ++ R) := by simp
      have hi : P.length + Z.length = (P ++ Z).length := by simp
      have hj : P.length + (Z ++ [z]).length = (P ++ Z).length + 1 + ([] : List Pk).length := by simp; omega
      have e1 : IntKind.wrap .i64 (((P.length + (Z ++ [z]).length : Nat) : Int) - 1) = ((P.length + Z.length : Nat) : Int) := wN (by simp; omega) (by omega)
      have hlen : ((P ++ Z) ++ z :: [] ++ x :: (Y2 ++ R)).length = P.length + Z.length + 1 + (Y2.length + R.length + 1) := by simp; omega
      have c0 : (P.length : Int) < ((P.length + (Z ++ [z]).length : Nat) : Int) := by simp; omega
      have c1 : ((P.length + (Z ++ [z]).length : Nat) : Int) < (((P ++ Z) ++ z :: [] ++ x :: (Y2 ++ R)).length : Int) := by rw [hlen]; simp; omega
      have c2 : ((P.length + Z.length : Nat) : Int) < (((P ++ Z) ++ z :: [] ++ x :: (Y2 ++ R)).length : Int) := by rw [hlen]; simp; omega
      refine ⟨_, ⟨Z, z :: Y2, by simp, rfl⟩, ?_, ?_⟩
      · simp; omega
      · simp only [W.slices_symMergeCmpFunc_api_Packet_L21, hd, e1, List.length_set, c0, c1, c2, Int.natCast_nonneg, decide_true, Bool.and_true, cond_true, Int.toNat_natCast]
        rw [swapG' hi hj]
        simp
  · simp only [List.length_append, List.length_cons, big] at *
    simp only [Int.toNat_natCast]; omega
end Go.Proofs.YtgjmfljogaanfaaGreat.Pure
