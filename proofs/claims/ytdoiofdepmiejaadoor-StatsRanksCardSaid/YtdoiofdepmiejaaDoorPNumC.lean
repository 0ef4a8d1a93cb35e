/- The numbers of a line, and repeated texts: contracts. -/
import Derived.Test.YtdoiofdepmiejaaDoorEvR
import Derived.Test.YtdoiofdepmiejaaDoorPNum
namespace Go.Proofs.YtdoiofdepmiejaaDoor
open Go.Ev Go.RowKit

/-- What 'numbers' tells of numbers that are small. -/
def numT (xs : List Int) : Option ByteArray :=
  if 0 < xs.length ∧ xs.length ≤ 1000 ∧ (xs.all fun x => decide (0 ≤ x ∧ x < 100)) = true then some ⟨(numB xs ++ [10]).toArray⟩ else none
def numC : FC := mkF [.row 2 [.int .i64]] [.sc .str] fun _ xs => numT xs

theorem numC_ok (N : Nat) : FCOK Tryd.prog N 25 numC :=
  .body Tryd.f25 Tryd.func25 rfl rfl <| FCCalls.of_makes (nb := fun _ => []) (fun _ _ _ => rfl) (fun _ _ _ => rfl) fun az hm ρ w B vs t ks r ha hh hd hr => by
    obtain ⟨t1, hd', e1⟩ := Option.map_eq_some_iff.1 (show (getS true 0 (aPs 0 [.row 2 [.int .i64]]) (aHs [.row 2 [.int .i64]]) az hm).map (fun t => (t, ([] : List Nat))) = some (t, ks) from hd)
    obtain rfl : t1 = t := (Prod.mk.inj e1).1
    clear e1
    obtain ⟨hr1, ha1⟩ := getS_HR (weak := true) (ps := aPs 0 [.row 2 [.int .i64]]) (hs := aHs [.row 2 [.int .i64]]) (fun _ => rfl) rfl rfl hd' hh
    have ha2 := ha1 _ ha
    obtain ⟨⟨⟩, xs, ⟨⟩⟩ := t1
    have hrun : numT xs = some r := hr
    unfold numT at hrun
    split at hrun <;> first | cases hrun; done | skip
    rename_i hc
    obtain ⟨hc1, hc2, hc3⟩ := hc
    obtain rfl := Option.some.inj hrun
    have hs : ∀ x ∈ xs, 0 ≤ x ∧ x < 100 := fun x hx => by simpa using List.all_eq_true.1 hc3 x hx
    obtain ⟨l⟩ := vs
    cases ha2 with
    | cons hv hrest =>
    cases hrest
    rename_i v
    obtain ⟨hρ, aa, n, c, rfl⟩ := hv
    obtain ⟨ρ1, hρ1⟩ : ∃ ρ1, ρ1 = renOf ρ (sigS 0 (aPs 0 [.row 2 [.int .i64]]) (aHs [.row 2 [.int .i64]]) az hm) (aHs [.row 2 [.int .i64]]).length := ⟨_, rfl⟩
    rw [← hρ1] at hr1 hρ
    rcases hr1.blk 0 _ rfl with e | ⟨r0, h1, h2⟩
    · cases e
    rw [hρ] at h1; obtain rfl := Option.some.inj h1
    obtain ⟨_, a1, c1, e2, _, hcell⟩ := h2
    cases e2
    have hget : ∀ (k : Nat) (z : Int), xs[k]? = some z → (flat [.int .i64] xs)[k]? = some (.int .i64 z) := by
      intro k z hz
      have := flat_get [.int .i64] xs k 0 (List.getElem?_eq_some_iff.1 hz).1 (by decide)
      simp only [List.length_singleton, Nat.mul_one, Nat.add_zero] at this
      rw [this, List.getD_eq_getElem?_getD, hz]
      rfl
    obtain ⟨x0, hx0⟩ : ∃ x0, xs[0]? = some x0 := ⟨_, List.getElem?_eq_getElem hc1⟩
    obtain ⟨ad, hao, hac, hak⟩ := hcell 0 _ (hget 0 x0 hx0)
    obtain ⟨b, off, spot⟩ := ad
    have hsp : spot = none := by
      cases spot with
      | none => rfl
      | some q =>
        have e0 : (⟨b, off, some q⟩ : Addr).add 0 = ⟨b, off, some q⟩ := rfl
        rw [e0] at hac
        unfold World.cell? at hac
        split at hac
        · simp at hac
        · cases hac
    subst hsp
    subst hao
    refine (numbers_calls b off c xs w hs hc2 (Old.all_iff.1 (.inl hak)) (fun k x hx => ?_)).mono ?_
    · obtain ⟨ad2, e2, e3, _⟩ := hcell k _ (hget k x hx)
      obtain rfl := Option.some.inj e2
      rw [Addr.add_lit] at e3
      exact e3
    · rintro e w' ⟨rfl, hbel⟩
      exact ⟨_, rfl, hbel, fun key _ => ⟨ρ, Ren.le_refl ρ, fun _ _ => rfl, rfl, fun j b hb => by simp at hb, fun j j' b b' rv rv' g _ hb => by simp at hb⟩⟩

/-- What 'strings.Repeat' tells. -/
def repT (s : ByteArray) (c : Int) : Option ByteArray :=
  if 0 ≤ c ∧ c ≤ 1000 ∧ s.size ≤ 1000 then some ⟨(Lib.repeatL s.data.toList c.toNat).toArray⟩ else none
def repC : FC := mkF [.sc .str, .sc (.int .i64)] [.sc .str] fun _ s c => repT s c
theorem repC_ok (N : Nat) : FCOK Tryd.prog N 31 repC :=
  .body Tryd.f31 Tryd.func31 rfl rfl <| FCCalls.of_makes (nb := fun _ => []) (fun _ _ _ => rfl) (fun _ _ _ => rfl) fun az hm ρ w B vs t ks r ha hh hd hr => by
    obtain ⟨t1, hd', e1⟩ := Option.map_eq_some_iff.1 (show (getS true 0 (aPs 0 [.sc .str, .sc (.int .i64)]) (aHs [.sc .str, .sc (.int .i64)]) az hm).map (fun t => (t, ([] : List Nat))) = some (t, ks) from hd)
    obtain rfl : t1 = t := (Prod.mk.inj e1).1
    clear e1
    obtain ⟨_, ha1⟩ := getS_HR (weak := true) (ps := aPs 0 [.sc .str, .sc (.int .i64)]) (hs := aHs [.sc .str, .sc (.int .i64)]) (fun _ => rfl) rfl rfl hd' hh
    have ha2 := ha1 _ ha
    obtain ⟨⟨s, c, ⟨⟩⟩, ⟨⟩⟩ := t1
    have hrun : repT s c = some r := hr
    unfold repT at hrun
    split at hrun <;> first | cases hrun; done | skip
    rename_i hc
    obtain ⟨hc1, hc2, hc3⟩ := hc
    obtain rfl := Option.some.inj hrun
    obtain ⟨l⟩ := vs
    cases ha2 with
    | cons hv hrest =>
    cases hrest with
    | cons hv2 hrest2 =>
    cases hrest2
    obtain rfl := hv
    obtain rfl := hv2
    obtain ⟨m, rfl⟩ : ∃ m : Nat, c = (m : Int) := Int.eq_ofNat_of_zero_le hc1
    have hm1 : m ≤ 1000 := Int.ofNat_le.1 hc2
    have hmul : s.size * m ≤ 140737488355328 := Nat.le_trans (Nat.mul_le_mul hc3 hm1) (by decide)
    refine (Tryd.Repeat s m w (by omega) hmul).mono ?_
    rintro e w' ⟨rfl, hbel⟩
    exact ⟨_, rfl, hbel, fun key _ => ⟨ρ, Ren.le_refl ρ, fun _ _ => rfl, rfl, fun j b hb => by simp at hb, fun j j' b b' rv rv' g _ hb => by simp at hb⟩⟩
end Go.Proofs.YtdoiofdepmiejaaDoor
