/- The library's stable sorting, whole; packets in the order in which they come. -/
import Derived.Test.YtgjmfljogaanfaaGreatPSrm
namespace Go.Proofs.YtgjmfljogaanfaaGreat.Pure
open Go.Ev Go.RowKit

theorem stable_blocks (N : Nat) (hN : big < N) (xs : List Pk) (hbig : xs.length ≤ big) :
    ∃ z, (∃ S R, S ++ csort 20 R = csort 20 xs ∧ R.length < 20 ∧ S.length + R.length = xs.length ∧ z = (((xs.length : Int), (20, ((S.length : Int), ()))), (S ++ R, ()))) ∧
      iter (W.slices_stableCmpFunc_api_Packet_L2 N) N (((xs.length : Int), (20, (0, (20, ())))), (xs, ())) = some z := by
  refine iter_done (fun x => ∃ S R, S ++ csort 20 R = csort 20 xs ∧ S.length + R.length = xs.length ∧ x = (((xs.length : Int), (20, ((S.length : Int), (((S.length + 20 : Nat) : Int), ())))), (S ++ R, ()))) (fun x => xs.length - x.1.2.2.1.toNat) _ ?_ N _ ⟨[], xs, rfl, by simp, rfl⟩ ?_
  · rintro F _ ⟨S, R, h1, h2, rfl⟩
    simp only [big] at hbig hN
    by_cases hlt : R.length < 20
    · right
      refine ⟨_, ⟨S, R, h1, hlt, h2, rfl⟩, ?_⟩
      have c0 : ¬ ((S.length + 20 : Nat) : Int) ≤ (xs.length : Int) := by omega
      simp only [W.slices_stableCmpFunc_api_Packet_L2, c0, decide_false, cond_false]
    · left
      have hR : R = R.take 20 ++ R.drop 20 := (List.take_append_drop _ _).symm
      have k1 : (R.take 20).length = 20 := by simp; omega
      have k2 : (R.drop 20).length = R.length - 20 := by simp
      have hi := insertion_eq (N := N) (a := (S.length : Int)) (b := ((S.length + 20 : Nat) : Int)) (l := S ++ R) S (R.take 20) (R.drop 20) rfl (by rw [k1]) (by simp [big]; omega) hN (by rw [List.append_assoc, ← hR])
      have c0 : ((S.length + 20 : Nat) : Int) ≤ (xs.length : Int) := by omega
      have e1 : IntKind.wrap .i64 (((S.length + 20 : Nat) : Int) + 20) = ((S.length + 20 + 20 : Nat) : Int) := wN (by omega) (by omega)
      have k3 : (S ++ isort (R.take 20)).length = S.length + 20 := by rw [List.length_append, isort_length, k1]
      refine ⟨_, ⟨S ++ isort (R.take 20), R.drop 20, ?_, by omega, rfl⟩, ?_, ?_⟩
      · rw [← h1]
        conv => rhs; rw [hR]
        rw [csort_block (by omega) k1, List.append_assoc]
      · rw [k3]; simp only [Int.toNat_natCast]; omega
      · simp only [W.slices_stableCmpFunc_api_Packet_L2, c0, decide_true, cond_true, hi, Option.bind_some, e1, k3]
  · simp only [big] at hbig hN
    simp only [Int.toNat_zero]; omega

theorem stable_pairs (N : Nat) (hN : big < N) (s : Nat) (hs : 0 < s) (xs : List Pk) (hbig : xs.length ≤ big) (hsb : s ≤ big) :
    ∃ z, (∃ S R, S ++ csort (2 * s) R = csort (2 * s) xs ∧ R.length < 2 * s ∧ S.length + R.length = xs.length ∧ z = (((xs.length : Int), ((s : Int), ((S.length : Int), ()))), (S ++ csort s R, ()))) ∧
      iter (W.slices_stableCmpFunc_api_Packet_L9 N) N (((xs.length : Int), ((s : Int), (0, (((2 * s : Nat) : Int), ())))), (csort s xs, ())) = some z := by
  refine iter_done (fun x => ∃ S R, S ++ csort (2 * s) R = csort (2 * s) xs ∧ S.length + R.length = xs.length ∧ x = (((xs.length : Int), ((s : Int), ((S.length : Int), (((S.length + 2 * s : Nat) : Int), ())))), (S ++ csort s R, ()))) (fun x => xs.length - x.1.2.2.1.toNat) _ ?_ N _ ⟨[], xs, rfl, by simp, by simp⟩ ?_
  · rintro F _ ⟨S, R, h1, h2, rfl⟩
    simp only [big] at hbig hN hsb
    by_cases hlt : R.length < 2 * s
    · right
      refine ⟨_, ⟨S, R, h1, hlt, h2, rfl⟩, ?_⟩
      have c0 : ¬ ((S.length + 2 * s : Nat) : Int) ≤ (xs.length : Int) := by omega
      simp only [W.slices_stableCmpFunc_api_Packet_L9, c0, decide_false, cond_false]
    · left
      obtain ⟨C, D, R', rfl, k1, k2⟩ : ∃ C D R', R = C ++ D ++ R' ∧ C.length = s ∧ D.length = s := ⟨R.take s, (R.drop s).take s, (R.drop s).drop s, by rw [List.append_assoc, List.take_append_drop, List.take_append_drop], by simp; omega, by simp; omega⟩
      simp only [List.length_append] at h2 hlt
      have hd : csort s (C ++ D ++ R') = isort C ++ isort D ++ csort s R' := by rw [List.append_assoc, csort_block hs k1, csort_block hs k2, List.append_assoc]
      have hC : isort C ≠ [] := by intro h; have := isort_length C; rw [h] at this; simp at this; omega
      have hD : isort D ≠ [] := by intro h; have := isort_length D; rw [h] at this; simp at this; omega
      have hi := symMerge_eq (N := N) (a := (S.length : Int)) (m := ((S.length + s : Nat) : Int)) (b := ((S.length + 2 * s : Nat) : Int)) (l := S ++ csort s (C ++ D ++ R')) S (isort C) (isort D) (csort s R') hC hD (srt_isort C) (srt_isort D) rfl (by rw [isort_length, k1]) (by rw [isort_length, isort_length, k1, k2]; omega) (by rw [List.length_append, csort_length]; simp only [List.length_append, big]; omega) hN (by rw [hd]; simp)
      rw [mrg_isort'] at hi
      have c0 : ((S.length + 2 * s : Nat) : Int) ≤ (xs.length : Int) := by omega
      have e0 : IntKind.wrap .i64 ((S.length : Int) + (s : Int)) = ((S.length + s : Nat) : Int) := wN (by omega) (by omega)
      have e1 : IntKind.wrap .i64 (2 * (s : Int)) = ((2 * s : Nat) : Int) := wN (by omega) (by omega)
      have e2 : IntKind.wrap .i64 (((S.length + 2 * s : Nat) : Int) + ((2 * s : Nat) : Int)) = ((S.length + 2 * s + 2 * s : Nat) : Int) := wN (by omega) (by omega)
      have k3 : (S ++ isort (C ++ D)).length = S.length + 2 * s := by rw [List.length_append, isort_length, List.length_append]; omega
      refine ⟨_, ⟨S ++ isort (C ++ D), R', ?_, by rw [k3]; omega, rfl⟩, ?_, ?_⟩
      · rw [← h1, csort_block (s := 2 * s) (C := C ++ D) (by omega) (by rw [List.length_append]; omega), List.append_assoc]
      · rw [k3]; simp only [Int.toNat_natCast]; omega
      · simp only [W.slices_stableCmpFunc_api_Packet_L9, c0, decide_true, cond_true, e0, hi, Option.bind_some, e1, e2, k3]
  · simp only [big] at hbig hN
    simp only [Int.toNat_zero]; omega

theorem stable_merges (N : Nat) (hN : big < N) (xs : List Pk) (hbig : xs.length ≤ big) :
    iter (W.slices_stableCmpFunc_api_Packet_L7 N) N (((xs.length : Int), (20, ())), (csort 20 xs, ())) = some ((), (isort xs, ())) := by
  refine iter_some (fun x => ∃ s : Nat, 0 < s ∧ (s ≤ 2 * xs.length ∨ s = 20) ∧ x = (((xs.length : Int), ((s : Int), ())), (csort s xs, ()))) (fun x => xs.length - x.1.2.1.toNat) _ ?_ N _ ⟨20, by omega, by omega, rfl⟩ ?_
  · rintro F _ ⟨s, hs, hs2, rfl⟩
    simp only [big] at hbig hN
    by_cases hlt : s < xs.length
    · left
      obtain ⟨z, ⟨S, R, h1, h2, h3, rfl⟩, h5⟩ := stable_pairs N hN s hs xs hbig (by simp only [big]; omega)
      have c0 : (s : Int) < (xs.length : Int) := by omega
      have e1 : IntKind.wrap .i64 (2 * (s : Int)) = ((2 * s : Nat) : Int) := wN (by omega) (by omega)
      have e2 : IntKind.wrap .i64 ((S.length : Int) + (s : Int)) = ((S.length + s : Nat) : Int) := wN (by omega) (by omega)
      have e3 : IntKind.wrap .i64 ((s : Int) * 2) = ((2 * s : Nat) : Int) := wN (by omega) (by omega)
      refine ⟨_, ⟨2 * s, by omega, by omega, rfl⟩, by simp only [Int.toNat_natCast]; omega, ?_⟩
      simp only [W.slices_stableCmpFunc_api_Packet_L7, c0, decide_true, cond_true, e1, h5, Option.bind_some, e2]
      rw [← h1]
      by_cases hr : s < R.length
      · have c1 : ((S.length + s : Nat) : Int) < (xs.length : Int) := by omega
        obtain ⟨C, D, rfl, k1⟩ : ∃ C D, R = C ++ D ∧ C.length = s := ⟨R.take s, R.drop s, (List.take_append_drop _ _).symm, by simp; omega⟩
        simp only [List.length_append] at h2 h3 hr
        have hd : csort s (C ++ D) = isort C ++ isort D := by rw [csort_block hs k1, csort_lt (by omega)]
        have hC : isort C ≠ [] := by intro h; have := isort_length C; rw [h] at this; simp at this; omega
        have hD : isort D ≠ [] := by intro h; have := isort_length D; rw [h] at this; simp at this; omega
        have hi := symMerge_eq (N := N) (a := (S.length : Int)) (m := ((S.length + s : Nat) : Int)) (b := (xs.length : Int)) (l := S ++ csort s (C ++ D)) S (isort C) (isort D) [] hC hD (srt_isort C) (srt_isort D) rfl (by rw [isort_length, k1]) (by rw [isort_length, isort_length]; omega) (by rw [List.length_append, csort_length]; simp only [List.length_append, big]; omega) hN (by rw [hd]; simp)
        rw [mrg_isort', List.append_nil] at hi
        simp only [c1, decide_true, cond_true, hi, Option.bind_some, e3]
        rw [csort_lt (s := 2 * s) (by rw [List.length_append]; omega)]
      · have c1 : ¬ ((S.length + s : Nat) : Int) < (xs.length : Int) := by omega
        simp only [c1, decide_false, cond_false, e3]
        rw [csort_lt (s := 2 * s) (by omega), csort_le (s := s) (by omega)]
    · right
      have c0 : ¬ (s : Int) < (xs.length : Int) := by omega
      simp only [W.slices_stableCmpFunc_api_Packet_L7, c0, decide_false, cond_false]
      rw [csort_le (by omega)]
  · simp only [big] at hbig hN
    simp only []
    omega

theorem sort_eq (N : Nat) (hN : big < N) (xs : List Pk) (hbig : xs.length ≤ big) : W.slices_SortStableFunc_api_Packet_api_Packet N ((), (xs, ())) = some ((), (isort xs, ())) := by
  obtain ⟨z, ⟨S, R, h1, h2, h3, rfl⟩, h5⟩ := stable_blocks N hN xs hbig
  have hi := insertion_eq (N := N) (a := (S.length : Int)) (b := (xs.length : Int)) (l := S ++ R) S R [] rfl (by omega) (by rw [List.length_append]; omega) hN (by simp)
  rw [← csort_lt h2, List.append_nil, h1] at hi
  simp only [W.slices_SortStableFunc_api_Packet_api_Packet, W.slices_stableCmpFunc_api_Packet, h5, hi, stable_merges N hN xs hbig, Option.bind_some]

/-- A packet within its ends. -/
def cleanP (p : Pk) : Pk := (p.1, (p.2.1, (cl p.2.2.1 1 65536, (p.2.2.2.1, cl p.2.2.2.2 0 67108864))))

theorem coming_loop (N : Nat) (hN : big < N) (xs : List Pk) (hbig : xs.length ≤ big) : iter (W.chain_coming_L3 N) N (((xs.length : Int), (0, ())), (xs, ())) = some ((), (xs.map cleanP, ())) := by
  refine iter_some (fun x => ∃ A B, xs = A ++ B ∧ x = (((xs.length : Int), ((A.length : Int), ())), (A.map cleanP ++ B, ()))) (fun x => xs.length - x.1.2.1.toNat) _ ?_ N _ ⟨[], xs, rfl, by simp⟩ ?_
  · rintro F _ ⟨A, B, rfl, rfl⟩
    simp only [List.length_append, big] at hbig hN
    cases B with
    | nil =>
      right
      simp [W.chain_coming_L3]
    | cons p B =>
      left
      simp only [List.length_cons] at hbig
      have hl : (A.map cleanP).length = A.length := by simp
      have c0 : (A.length : Int) < ((A ++ p :: B).length : Int) := by simp; omega
      have c1 : ∀ q : Pk, (A.length : Int) < ((A.map cleanP ++ q :: B).length : Int) := fun q => by simp; omega
      have g : ∀ q : Pk, (A.map cleanP ++ q :: B).getD A.length pk0 = q := fun q => getA (by simp)
      have st : ∀ q r : Pk, (A.map cleanP ++ q :: B).set A.length r = A.map cleanP ++ r :: B := fun q r => by
        rw [List.set_append_right _ _ (by simp), hl, Nat.sub_self]; rfl
      have e1 : IntKind.wrap .i64 ((A.length : Int) + 1) = ((A.length + 1 : Nat) : Int) := wN (by omega) (by omega)
      refine ⟨_, ⟨A ++ [p], B, by simp, rfl⟩, ?_, ?_⟩
      · simp; omega
      · simp only [W.chain_coming_L3, c0, c1, Int.natCast_nonneg, decide_true, Bool.and_true, cond_true, Int.toNat_natCast, g p, sat_Clamp_eq, Option.bind_some, st, g, e1]
        simp [cleanP]
  · simp only [big] at hbig hN
    simp only [Int.toNat_zero]; omega

theorem coming_eq (N : Nat) (hN : big < N) (xs : List Pk) (hbig : xs.length ≤ big) : W.chain_coming N xs = some (isort (xs.map cleanP)) := by
  have c0 : xs.length * 40 ≤ 140737488355328 := by simp only [big] at hbig; omega
  simp only [W.chain_coming, W.slices_Clone_api_Packet_api_Packet, c0, if_true, coming_loop N hN xs hbig, sort_eq N hN (xs.map cleanP) (by simpa using hbig), Option.bind_some]

theorem clean_eq (N : Nat) (p : Pk) : W.leatref50_Clean N p = some (cleanP p) := by
  simp only [W.leatref50_Clean, W.leatref50_keep, Option.bind_some, cleanP, imn_eq, imx_eq, Option.some.injEq, Prod.mk.injEq, true_and, cl]
  constructor <;> omega

end Go.Proofs.YtgjmfljogaanfaaGreat.Pure
