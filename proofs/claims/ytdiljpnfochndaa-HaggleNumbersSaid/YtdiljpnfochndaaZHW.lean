/- A part of the walk: what this seat's statements share. -/
import Derived.Test.YtdiljpnfochndaaZHU
import Derived.Test.YtdiljpnfochndaaZHP9
import Derived.Test.YtdiljpnfochndaaZV12
set_option linter.unusedSectionVars false
set_option linter.unusedVariables false
set_option linter.unusedSimpArgs false
namespace Go.Proofs.Ytdiljpnfochndaa
open Go Go.RowKit Go.Proofs.Ytdiljpnfochndaa.VW
open Go.Proofs.Ytdiljpnfochndaa.HP (Nd kid wor leafB rd modM modM_bd tameM tame_TK gameOf gameOf_TF ValP far Ef NeedP TF)
attribute [local irreducible] W Ops
theorem numF_3 {l : List Nd} {xs : List Int} {b : Int} {mx : Bool} (i : Int) : numF l xs b mx i = 0 ∨ numF l xs b mx i = 1 ∨ numF l xs b mx i = far := by
  unfold numF
  split
  · split
    · exact .inl rfl
    · exact .inr (.inr rfl)
  · exact .inr (.inl rfl)
theorem num_facts {l : List Nd} {dep S : List Int} {b y z : Int} (hT : TF l dep) (hy : NumR l dep S b true y) (hz : NumR l dep S b false z) : (y = 0 ↔ z = -1) ∧ (z = 0 ↔ y = -1) ∧ -1 ≤ y ∧ -1 ≤ z := by
  obtain ⟨es, hE, rfl⟩ := hy
  obtain ⟨fs, hF, rfl⟩ := hz
  have h1 := hT.n1
  have hd := Go.Proofs.Ytdiljpnfochndaa.HP.dual hT hE hF (fun i _ => numF_3 _) (fun i _ => numF_3 _) (fun i _ _ => by
    unfold numF
    by_cases hc : S.contains (i : Int)
    · rw [if_pos hc, if_pos hc]
      by_cases hw : b ≤ wor l i <;> simp [hw, far]
    · rw [if_neg hc, if_neg hc]; simp [far]) 0 (by omega)
  have sE := (Go.Proofs.Ytdiljpnfochndaa.HP.need_small hT hE (fun i _ => numF_3 _) 0 (by omega)).2
  have sF := (Go.Proofs.Ytdiljpnfochndaa.HP.need_small hT hF (fun i _ => numF_3 _) 0 (by omega)).2
  have e1 := sE.lo
  have e2 := sE.hi
  have e3 := sF.lo
  have e4 := sF.hi
  generalize (es.getD 0 (0, [])).1 = T at *
  generalize (fs.getD 0 (0, [])).1 = F at *
  simp only [far] at *
  split <;> split <;> omega
theorem num_dec {l : List Nd} {dep S vs : List Int} {b y : Int} (hT : TF l dep) (hb : -1000 ≤ b) (hy : NumR l dep S b true y) (hv : ValP l dep (worstF l S) vs) : y = 0 ↔ b ≤ vs.getD 0 0 := by
  obtain ⟨es, hE, rfl⟩ := hy
  have h1 := hT.n1
  have := Go.Proofs.Ytdiljpnfochndaa.HP.zero_iff (b := b) hT hE hv (fun i _ => numF_3 _) (fun i _ _ => by
    unfold numF worstF
    by_cases hc : S.contains (i : Int)
    · rw [if_pos hc, if_pos hc]
      by_cases hw : b ≤ wor l i <;> simp [hw, far]
    · rw [if_neg hc, if_neg hc]; simp [far]; omega) 0 (by omega)
  rw [← this]
  split
  · rename_i h
    constructor
    · intro e; omega
    · intro e; rw [e] at h; simp [far] at h
  · rfl
theorem num_all {l : List Nd} {dep S vs : List Int} {b y : Int} (hT : TF l dep) (hS : ∀ i : Nat, i < l.length → leafB l i = true → (i : Int) ∈ S) (hy : NumR l dep S b true y) (hv : ValP l dep (wor l) vs) : (b ≤ vs.getD 0 0 → y = 0) ∧ (vs.getD 0 0 < b → y = -1) := by
  obtain ⟨es, hE, rfl⟩ := hy
  have h1 := hT.n1
  have hc : ∀ i : Nat, i < l.length → leafB l i = true → S.contains (i : Int) = true := fun i hi hl => by simpa using hS i hi hl
  have hz := Go.Proofs.Ytdiljpnfochndaa.HP.zero_iff (b := b) hT hE hv (fun i _ => numF_3 _) (fun i hi hl => by
    unfold numF
    rw [if_pos (hc i hi hl)]
    by_cases hw : b ≤ wor l i <;> simp [hw, far]) 0 (by omega)
  have hf := Go.Proofs.Ytdiljpnfochndaa.HP.zero_or_far hT hE (fun i _ => numF_3 _) (fun i hi hl => by
    unfold numF
    rw [if_pos (hc i hi hl)]
    by_cases hw : b ≤ wor l i <;> simp [hw]) 0 (by omega)
  refine ⟨fun h => ?_, fun h => ?_⟩
  · rw [hz.2 h]; rfl
  · rcases hf with e | e
    · have := hz.1 e; omega
    · rw [e]; rfl
theorem num_none {l : List Nd} {dep : List Int} {b y : Int} {mx : Bool} (hT : TF l dep) (hy : NumR l dep [] b mx y) : y ≠ 0 := by
  obtain ⟨es, hE, rfl⟩ := hy
  have h1 := hT.n1
  have := Go.Proofs.Ytdiljpnfochndaa.HP.zero_none hT hE (fun i _ => numF_3 _) (fun i hi hl => by unfold numF; simp) 0 (by omega)
  split
  · omega
  · exact this
theorem num_mono {l : List Nd} {dep S S' : List Int} {b y y' : Int} {mx : Bool} (hT : TF l dep) (hy : NumR l dep S' b mx y') (hy' : NumR l dep S b mx y) (hs : ∀ x ∈ S', x ∈ S) : y' = 0 → y = 0 := by
  obtain ⟨es, hE, rfl⟩ := hy
  obtain ⟨fs, hF, rfl⟩ := hy'
  have h1 := hT.n1
  have := Go.Proofs.Ytdiljpnfochndaa.HP.zero_mono hT hE hF (fun i _ => numF_3 _) (fun i _ => numF_3 _) (fun i hi hl => by
    unfold numF
    by_cases hc : S'.contains (i : Int)
    · have hc2 : S.contains (i : Int) = true := by simpa using hs _ (by simpa using hc)
      rw [if_pos hc, if_pos hc2]
      exact id
    · rw [if_neg hc]; intro e; simp at e) 0 (by omega)
  intro e
  split at e
  · omega
  · rw [this e]; rfl
end Go.Proofs.Ytdiljpnfochndaa
