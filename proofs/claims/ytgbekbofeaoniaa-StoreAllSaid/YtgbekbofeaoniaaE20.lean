
/- The engine, part 20: a call to which rows of one's own are given up for good: they are only read from then on. No condition. -/
import Derived.Test.YtgbekbofeaoniaaE19
import Derived.Test.YtgbekbofeaoniaaE16
namespace Go.Proofs.Ytgbekbofeaoniaa
open Go Go.RowKit
set_option linter.unusedVariables false
set_option linter.unusedSimpArgs false

noncomputable def frzG (s : GSpec) : GSpec := fun l H K => match viewL H l with
  | some (p, r) => obl p (s r (delN H (nmsL l)) K)
  | none => False
section
variable {P : Program} {R : PN} {w : World} {F Ob : Nat → Prop} {W0 : World} {H : AH}
/-- Answers of a function that turns nothing, rows of one's own being given up. -/
noncomputable def frzP (s : PSpec) : GSpec := fun l H K => match viewL H l with
  | some (p, r) => obl p (match s r with | some (obs, v) => obl obs (K v (delN H (nmsL l))) | none => False)
  | none => False
theorem gfrzP {g : FuncId} {s : PSpec} (hg : SOK P g s) : GSOK P g (frzP s) := by
  refine ⟨hg.1, fun l H K h F Ob W0 R w cl hH hc => ?_⟩
  unfold frzP at h
  split at h
  rotate_left
  · exact h.elim
  rename_i p r hv
  obtain ⟨ho, hs⟩ := obl_inv h
  split at hs
  rotate_left
  · exact hs.elim
  rename_i obs v hsv
  obtain ⟨hob, hK⟩ := obl_inv hs
  have hsub : ∀ i e, (delN H (nmsL l)).get i = some e → H.get i = some e := fun i e h => (delN_get _ _ _ _ h).1
  have wr : ∀ g, Wr F R (delN H (nmsL l)) g → Wr F R H g := fun g k => k.imp id fun ⟨i, e, h1, h2⟩ => ⟨i, e, hsub i e h1, h2⟩
  have hc1 : CRel noN w (Wr F R (delN H (nmsL l))) r cl := frzL_rep hH hsub hc (fun i hi => by
    cases hg : (delN H (nmsL l)).get i with
    | none => rfl
    | some e => exact absurd hi (delN_get _ _ _ _ hg).2) hv ho
  have hH1 := hH.sub (delN_nx (nmsL l) H) hsub
  refine (hg.2 r obs v hsv hob w (Wr F R (delN H (nmsL l))) cl ⟨fun b => hH1.wr_lt, hH1.gl⟩ hc1).mono fun en w' ⟨cv, he, hx, hr⟩ => ?_
  exact ⟨R, v, delN H (nmsL l), cv, hK, he, fun _ _ => rfl, hx.weaken (fun _ _ k => k.elim), hH1.quiet hx, fun g _ k => wr g k, hr.mono noN_mono (Ext.refl (Wr F R (delN H (nmsL l))) _) fun _ _ k => k⟩
theorem gfrz {g : FuncId} {s : GSpec} (hg : GSOK P g s) : GSOK P g (frzG s) := by
  refine ⟨hg.1, fun l H K h F Ob W0 R w cl hH hc => ?_⟩
  unfold frzG at h
  split at h
  rotate_left
  · exact h.elim
  rename_i p r hv
  obtain ⟨ho, hs⟩ := obl_inv h
  have hsub : ∀ i e, (delN H (nmsL l)).get i = some e → H.get i = some e := fun i e h => (delN_get _ _ _ _ h).1
  have wr : ∀ g, Wr F R (delN H (nmsL l)) g → Wr F R H g := fun g k => k.imp id fun ⟨i, e, h1, h2⟩ => ⟨i, e, hsub i e h1, h2⟩
  have hc1 : CRel noN w (Wr F R (delN H (nmsL l))) r cl := frzL_rep hH hsub hc (fun i hi => by
    cases hg : (delN H (nmsL l)).get i with
    | none => rfl
    | some e => exact absurd hi (delN_get _ _ _ _ hg).2) hv ho
  have hc2 : CRel R w (Wr F R (delN H (nmsL l))) r cl := ⟨hc1.1, fun j x v hx hv => (hc1.2 j x v hx hv).mono noN_mono (Ext.refl (Wr F R (delN H (nmsL l))) _) fun _ _ k => k⟩
  have hnx := delN_nx (nmsL l) H
  refine (hg.2 r _ K hs F Ob W0 R w cl (hH.sub hnx hsub) hc2).mono fun en w' ⟨R', v, H', cv, hK, he, hR, hx, hH', hwr, hr⟩ => ?_
  exact ⟨R', v, H', cv, hK, he, fun i hi => hR i (by rw [hnx]; exact hi), hx.weaken (fun b _ k => wr b k), hH', fun g hl k => wr g (hwr g hl k), hr⟩
end
end Go.Proofs.Ytgbekbofeaoniaa
