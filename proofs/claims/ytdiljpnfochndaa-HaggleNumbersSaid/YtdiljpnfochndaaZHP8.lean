/- A part of the walk: what this seat's statements share. -/
import Derived.Test.YtdiljpnfochndaaZHP7
set_option linter.unusedVariables false
set_option linter.unusedSimpArgs false
/- Values: more for the leaves is not less for the root. -/
namespace Go.Proofs.Ytdiljpnfochndaa.HP
theorem foldl_mono {f : Int → Int → Int} (hf : ∀ a b c d, a ≤ b → c ≤ d → f a c ≤ f b d) : ∀ (cs : List Int) (g h : Int → Int) (a b : Int), a ≤ b → (∀ c ∈ cs, g c ≤ h c) → (cs.map g).foldl f a ≤ (cs.map h).foldl f b
  | [], _, _, _, _, hab, _ => hab
  | c :: r, g, h, a, b, hab, hc => foldl_mono hf r g h _ _ (hf _ _ _ _ hab (hc c (by simp))) fun x hx => hc x (by simp [hx])
theorem maxL_mono (cs : List Int) (g h : Int → Int) (hc : ∀ c ∈ cs, g c ≤ h c) : maxL (cs.map g) ≤ maxL (cs.map h) := by
  cases cs with
  | nil => simp [maxL]
  | cons c r => exact foldl_mono (fun a b c d h1 h2 => by omega) r g h _ _ (hc c (by simp)) fun x hx => hc x (by simp [hx])
theorem minL_mono (cs : List Int) (g h : Int → Int) (hc : ∀ c ∈ cs, g c ≤ h c) : minL (cs.map g) ≤ minL (cs.map h) := by
  cases cs with
  | nil => simp [minL]
  | cons c r => exact foldl_mono (fun a b c d h1 h2 => by omega) r g h _ _ (hc c (by simp)) fun x hx => hc x (by simp [hx])
theorem val_mono {l : List Nd} {dep : List Int} (hT : TF l dep) {f g : Int → Int} {vs us : List Int} (hv : ValP l dep f vs) (hu : ValP l dep g us) (h : ∀ i : Nat, i < l.length → leafB l i = true → f i ≤ g i) : ∀ j : Nat, j < l.length → vs.getD j 0 ≤ us.getD j 0 := by
  have key : ∀ d j : Nat, l.length - j = d → j < l.length → vs.getD j 0 ≤ us.getD j 0 := by
    intro d
    induction d using Nat.strongRecOn with
    | _ d ih =>
      intro j hd hj
      have hk : ∀ c ∈ kid l j, rd vs c ≤ rd us c := fun c hc => by
        obtain ⟨h1, h2⟩ := mem_kid hT hj hc
        exact ih (l.length - c.toNat) (by omega) c.toNat rfl (by omega)
      rw [hv.at_ j hj, hu.at_ j hj]
      unfold NV
      split
      · rename_i hl; exact h j hj hl
      · split
        · exact maxL_mono _ _ _ hk
        · exact minL_mono _ _ _ hk
  exact fun j hj => key _ j rfl hj
end Go.Proofs.Ytdiljpnfochndaa.HP
