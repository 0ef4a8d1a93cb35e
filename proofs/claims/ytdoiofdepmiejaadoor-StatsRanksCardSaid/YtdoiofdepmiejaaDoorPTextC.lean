/- The document's text of a number: its contract. -/
import Derived.Test.YtdoiofdepmiejaaDoorEvR
import Derived.Test.YtdoiofdepmiejaaDoorPText
namespace Go.Proofs.YtdoiofdepmiejaaDoor
open Go.Ev Go.RowKit

def textT (x : Int) : Option ByteArray := if -9223372036854775808 ≤ x ∧ x ≤ 9223372036854775807 then some ⟨(Lib.itoa x).toArray⟩ else none
def textC : FC := mkF [.sc (.int .i64)] [.sc .str] fun _ x => textT x
theorem textC_ok (N : Nat) : FCOK Tryd.prog N 46 textC :=
  .body Tryd.f46 Tryd.func46 rfl rfl <| FCCalls.of_makes (nb := fun _ => []) (fun _ _ _ => rfl) (fun _ _ _ => rfl) fun az hm ρ w B vs t ks r ha hh hd hr => by
    obtain ⟨t1, hd', e1⟩ := Option.map_eq_some_iff.1 (show (getS true 0 (aPs 0 [.sc (.int .i64)]) (aHs [.sc (.int .i64)]) az hm).map (fun t => (t, ([] : List Nat))) = some (t, ks) from hd)
    obtain rfl : t1 = t := (Prod.mk.inj e1).1
    clear e1
    obtain ⟨_, ha1⟩ := getS_HR (weak := true) (ps := aPs 0 [.sc (.int .i64)]) (hs := aHs [.sc (.int .i64)]) (fun _ => rfl) rfl rfl hd' hh
    have ha2 := ha1 _ ha
    obtain ⟨⟨x, ⟨⟩⟩, ⟨⟩⟩ := t1
    have hrun : textT x = some r := hr
    unfold textT at hrun
    split at hrun <;> first | cases hrun; done | skip
    rename_i hc
    obtain rfl := Option.some.inj hrun
    obtain ⟨l⟩ := vs
    cases ha2 with
    | cons hv hrest =>
    cases hrest
    obtain rfl := hv
    refine (Text_calls x hc.1 hc.2 w).mono ?_
    rintro e w' ⟨rfl, hbel⟩
    exact ⟨_, rfl, hbel, fun key _ => ⟨ρ, Ren.le_refl ρ, fun _ _ => rfl, rfl, fun j b hb => by simp at hb, fun j j' b b' rv rv' g _ hb => by simp at hb⟩⟩
end Go.Proofs.YtdoiofdepmiejaaDoor
