/- audit.Most: its contract. -/
import Derived.Test.YtdoiofdepmiejaaPMost
namespace Go.Proofs.Ytdoiofdepmiejaa
open Go.Ev Go.RowKit

abbrev sh2 : List SK := [.int .i64, .int .i64]
def mostT (l : List (Int × Int)) : Option Int := if l.length ≤ 1000 ∧ (l.all fun z => (Lit.int .i64 z.1).wf) = true then some (mostL (l.map (·.1))) else none
def mostC : FC := mkF [.row 32 [.int .i64, .int .i64]] [.sc (.int .i64)] fun _ xs => mostT xs

theorem mostC_ok (N : Nat) : FCOK Try.prog N 6 mostC :=
  .body Try.f6 Try.func6 rfl rfl <| FCCalls.of_makes (nb := fun _ => []) (fun _ _ _ => rfl) (fun _ _ _ => rfl) fun az hm ρ w B vs t ks r ha hh hd hr => by
    obtain ⟨t1, hd', e1⟩ := Option.map_eq_some_iff.1 (show (getS true 0 (aPs 0 [.row 32 sh2]) (aHs [.row 32 sh2]) az hm).map (fun t => (t, ([] : List Nat))) = some (t, ks) from hd)
    obtain rfl : t1 = t := (Prod.mk.inj e1).1
    clear e1
    obtain ⟨hr1, ha1⟩ := getS_HR (weak := true) (ps := aPs 0 [.row 32 sh2]) (hs := aHs [.row 32 sh2]) (fun _ => rfl) rfl rfl hd' hh
    have ha2 := ha1 _ ha
    obtain ⟨⟨⟩, xs, ⟨⟩⟩ := t1
    have hrun : mostT xs = some r := hr
    unfold mostT at hrun
    split at hrun <;> first | cases hrun; done | skip
    rename_i hc
    obtain ⟨hc2, hc3⟩ := hc
    obtain rfl := Option.some.inj hrun
    have hs : ∀ z ∈ xs, (Lit.int .i64 z.1).wf = true := fun x hx => List.all_eq_true.1 hc3 x hx
    obtain ⟨l⟩ := vs
    cases ha2 with
    | cons hv hrest =>
    cases hrest
    rename_i v
    obtain ⟨hρ, aa, n, c, rfl⟩ := hv
    obtain ⟨ρ1, hρ1⟩ : ∃ ρ1, ρ1 = renOf ρ (sigS 0 (aPs 0 [.row 32 sh2]) (aHs [.row 32 sh2]) az hm) (aHs [.row 32 sh2]).length := ⟨_, rfl⟩
    rw [← hρ1] at hr1 hρ
    rcases hr1.blk 0 _ rfl with e | ⟨r0, h1, h2⟩
    · cases e
    rw [hρ] at h1; obtain rfl := Option.some.inj h1
    obtain ⟨_, a1, c1, e2, _, hcell⟩ := h2
    cases e2
    have fin : ∀ (e : Ending) (w' : World) (m : Int), (e = .returned (.int .i64 m) ∧ Below w.heap.size w w') → m = mostL (xs.map (·.1)) →
        ∃ v', e = .returned v' ∧ Below w.heap.size w w' ∧ ∀ key : Nat, (∀ j, j < ([] : List AB).length → ρ (key + j) = none) →
          ∃ ρ', ρ.le ρ' ∧ (∀ k, (∀ j, j < ([] : List AB).length → k ≠ key + j) → ρ' k = ρ k) ∧ VR ρ' (.int .i64 (mostL (xs.map (·.1)))) v' ∧
            (∀ j b, ([] : List AB)[j]? = some b → ∃ rv, ρ' (key + j) = some rv ∧ (∃ e sh xs, b = .rows e sh xs) ∧ HB w' (Old w) ρ' b rv) ∧
            (∀ j j' b b' rv rv' g, j ≠ j' → ([] : List AB)[j]? = some b → ([] : List AB)[j']? = some b' → ρ' (key + j) = some rv → ρ' (key + j') = some rv' → ownB b rv = some g → ownB b' rv' ≠ some g) := by
      rintro e w' m ⟨rfl, hbel⟩ rfl
      exact ⟨_, rfl, hbel, fun key _ => ⟨ρ, Ren.le_refl ρ, fun _ _ => rfl, rfl, fun j b hb => by simp at hb, fun j j' b b' rv rv' g _ hb => by simp at hb⟩⟩
    cases hx : xs with
    | nil =>
      subst hx
      exact (most_none aa c w).mono fun e w' h => fin e w' 0 h rfl
    | cons x0 xt =>
      have hget : ∀ (k j : Nat) (z : Int × Int), xs[k]? = some z → j < 2 → (flat sh2 xs)[k * 2 + j]? = (Row.vals sh2 z)[j]? := by
        intro k j z hz hj
        have := flat_get sh2 xs k j (List.getElem?_eq_some_iff.1 hz).1 hj
        rw [show sh2.length = 2 from rfl] at this
        rw [this, List.getD_eq_getElem?_getD, hz]
        rfl
      obtain ⟨ad, hao, hac, hak⟩ := hcell 0 (.int .i64 x0.1) (by have := hget 0 0 x0 (by rw [hx]; rfl) (by omega); rw [Nat.zero_mul, Nat.zero_add] at this; rw [this]; rfl)
      obtain ⟨b, off, spot⟩ := ad
      have hsp : spot = none := by
        cases spot with
        | none => rfl
        | some q =>
          have e0 : (⟨b, off, some q⟩ : Addr).add 0 = ⟨b, off, some q⟩ := rfl
          rw [e0] at hac
          unfold World.cell? at hac
          split at hac
          · simp at hac
          · cases hac
      subst hsp
      subst hao
      rw [← hx]
      have one : ∀ (k j : Nat) (z : Int × Int) (v : Value), xs[k]? = some z → j < 2 → (Row.vals sh2 z)[j]? = some v → w.cell? ⟨b, off + k * 2 + j, none⟩ = some v := by
        intro k j z v hz hj hv
        obtain ⟨ad2, e2, e3, _⟩ := hcell (k * 2 + j) v ((hget k j z hz hj).trans hv)
        obtain rfl := Option.some.inj e2
        rw [Addr.add_lit] at e3
        rw [Nat.add_assoc]
        exact e3
      exact (most_walk b off c xs hc2 w (Old.all_iff.1 (.inl hak)) (fun k z hz => ⟨one k 0 z _ hz (by omega) rfl, one k 1 z _ hz (by omega) rfl⟩) hs).mono fun e w' h => fin e w' _ h rfl
end Go.Proofs.Ytdoiofdepmiejaa
