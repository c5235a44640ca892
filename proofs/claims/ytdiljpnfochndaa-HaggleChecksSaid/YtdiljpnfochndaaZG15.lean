/- A part of the walk: what this seat's statements share. -/
import Derived.Test.YtdiljpnfochndaaZG14
import Derived.Test.YtdiljpnfochndaaZG2
import Derived.Test.YtdiljpnfochndaaZG8
import Derived.ChangeSlices
import Derived.ChangeArms
set_option linter.unusedVariables false
set_option linter.unusedSimpArgs false
set_option linter.unusedSectionVars false
namespace Go.Proofs.Ytdiljpnfochndaa
open Go Go.RowKit Go.Proofs.Ytdiljpnfochndaa.VW
open Go.Proofs.Ytdiljpnfochndaa.HP (Nd kid wor leafB rd evB gameOf gameOf_TF TF TK ValP k_)
attribute [local irreducible] W Ops OrdA VW.Ord OrdX Wi OpsI
theorem kp_putObj {w : World} {r : Nat} (o : Obj) : Kp (fun k => k = r) w (w.putObj r o) := (Kp.of_grown (grownBy_putObj' w r o)).mono fun k _ e => by cases e; rfl
theorem at_kp {S : Nat → Prop} {w w' : World} {b : Nat} {o : Obj} (h : w.heap[b]? = some o) (k : Kp S w w') (hs : ¬ S b) : w'.heap[b]? = some o := (k.blk b (Array.getElem?_eq_some_iff.1 h).1 hs).trans h
/-- for i := range g.leaves(): 'I i' before node i. -/
theorem JW.leaves {wE : World} {g b97 id p nT : Nat} {gx : Operand} {l : List Nd} {dep : List Int} {assign body c2 : Code} {Φ : Post} {ds : List Deferred} {ρ : E} {I : Nat → World → Prop} (hT : TF l dep)
    (hg : ev ρ gx = some (.func (.func 97) #[] #[.pointer (some ⟨b97, 0, none⟩)])) (hi2 : inB nT c2 = true) (hp : Nat.blt p nT = true)
    (hI : ∀ i W, I i W → Blk W b97 #[.pointer (some ⟨g, 0, none⟩)] 69 ∧ Game W g l dep)
    (hIk : ∀ i W W', I i W → Kp (fun k => wE.heap.size ≤ k) W W' → I i W')
    (hno : ∀ i W, I i W → i < l.length → leafB l i = false → I (i + 1) W) (h0 : I 0 wE)
    (hround : ∀ L i W, I i W → i < l.length → leafB l i = true → wE.heap.size ≤ L → Wi (some L) Try.prog nT [] assign (fun e ρ1 w1 => e = .normal ∧ w1 = W ∧ ∀ W', I i W' → Wi (some L) Try.prog nT [] body (fun e ρ2 w2 => e = .normal ∧ I (i + 1) w2 ∧ Kp (fun k => k < wE.heap.size) W' w2) ρ1 W') ((p, .int .i64 i) :: ρ) W)
    (hdone : ∀ D W3, I l.length W3 → W3.heap[D]? = some (.deferred (some [])) → wE.heap.size ≤ D → W Try.prog nT ({ target := .collected D, args := #[] } :: ds) [.code c2] (fun e ρ w => e = .ret ∧ w.heap[D]? = some (.deferred (some [])) ∧ Φ .ret ρ (w.putObj D (.deferred none))) ρ W3) :
    JW Try.prog nT ds Φ c2 (.block id (.rangeFunc gx #[p] assign body)) ρ wE := by
  refine JW.range (lb := [.pointer (some ⟨b97, 0, none⟩)]) (gf := 97) hg (Fns.call (P := Try.prog) (by exact rfl)) hi2 (fun fn tmps hrep D W1 hD hW1 => ?_)
  subst hD hW1
  have ka := (mk_alloc wE (.deferred (some []))).kp
  have kb := (mk_alloc (wE.alloc (.deferred (some []))) (.loop (loopRec fn tmps #[p] assign body wE.heap.size))).kp
  have h1 := hIk _ _ _ h0 ((ka.trans kb).mono fun k _ e => by rcases e with e | e <;> exact e.elim)
  have hsz : (wE.alloc (.deferred (some []))).heap.size = wE.heap.size + 1 := (mk_alloc wE _).size
  have hD1 : ((wE.alloc (.deferred (some []))).alloc (.loop (loopRec fn tmps #[p] assign body wE.heap.size))).heap[wE.heap.size]? = some (.deferred (some [])) := at_kp (mk_alloc wE (.deferred (some []))).at_ kb (fun e => e)
  have hL1 : ((wE.alloc (.deferred (some []))).alloc (.loop (loopRec fn tmps #[p] assign body wE.heap.size))).heap[wE.heap.size + 1]? = some (.loop (loopRec fn tmps #[p] assign body wE.heap.size)) := by
    have := (mk_alloc (wE.alloc (.deferred (some []))) (.loop (loopRec fn tmps #[p] assign body wE.heap.size))).at_
    rw [hsz] at this
    exact this
  refine CallsIn.mono (leaves1_in (lp := wE.heap.size + 1) (g := g) (b1 := b97) hT (J := fun i W => I i W ∧ W.heap[wE.heap.size]? = some (.deferred (some [])) ∧ W.heap[wE.heap.size + 1]? = some (.loop (loopRec fn tmps #[p] assign body wE.heap.size)))
    (fun i W h => hI i W h.1) (fun i W h hi hl => ⟨hno i W h.1 hi hl, h.2⟩) (fun i W h hi hl => ?_) ⟨h1, hD1, hL1⟩) ?_
  · obtain ⟨hi1, hd, hl1⟩ := h
    refine round_in hl1 hrep hp ((hround _ i W hi1 hi hl (by omega)).mono ?_)
    rintro e ρ1 w1 ⟨rfl, rfl, hb⟩
    refine ⟨rfl, _, hl1, rfl, ?_⟩
    have hk := kp_putObj (w := w1) (r := wE.heap.size + 1) (.loop { (loopRec fn tmps #[p] assign body wE.heap.size) with state := .busy })
    have hlt := (Array.getElem?_eq_some_iff.1 hl1).1
    refine (hb _ (hIk _ _ _ hi1 (hk.mono fun k _ e => by omega))).mono ?_
    rintro e ρ2 w2 ⟨rfl, hi2', hk2⟩
    have hl2 : w2.heap[wE.heap.size + 1]? = some (.loop { (loopRec fn tmps #[p] assign body wE.heap.size) with state := .busy }) := at_kp (World.putObj_heap_same hlt) hk2 (fun e => by omega)
    have hd2 : w2.heap[wE.heap.size]? = some (.deferred (some [])) := at_kp (at_kp hd hk (fun e => by omega)) hk2 (fun e => by omega)
    have hlt2 := (Array.getElem?_eq_some_iff.1 hl2).1
    have hk3 := kp_putObj (w := w2) (r := wE.heap.size + 1) (.loop (loopRec fn tmps #[p] assign body wE.heap.size))
    exact ⟨rfl, _, hl2, rfl, hIk _ _ _ hi2' (hk3.mono fun k _ e => by omega), at_kp hd2 hk3 (fun e => by omega), World.putObj_heap_same hlt2⟩
  · rintro e W2 ⟨v, rfl, hi2', hd, hl2⟩
    refine ⟨v, rfl, _, hl2, rfl, rfl, hd, ?_⟩
    rintro W3 rfl
    have hk3 := kp_putObj (w := W2) (r := wE.heap.size + 1) (.loop { (loopRec fn tmps #[p] assign body wE.heap.size) with state := .exhausted })
    exact hdone _ _ (hIk _ _ _ hi2' (hk3.mono fun k _ e => by omega)) (at_kp hd hk3 (fun e => by omega)) (Nat.le_refl _)
end Go.Proofs.Ytdiljpnfochndaa
namespace Go.Proofs.Ytdiljpnfochndaa
open Go Go.RowKit Go.Proofs.Ytdiljpnfochndaa.VW
open Go.Proofs.Ytdiljpnfochndaa.HP (Nd kid wor leafB rd evB gameOf gameOf_TF TF TK ValP k_ PI PlanS Dn far kid_mem_at)
attribute [local irreducible] W Ops OrdA VW.Ord OrdX Wi OpsI
theorem asked_all {l : List Nd} {dep : List Int} {f : Int → Bool} {p : Int → Bool} {n : Nat} : (asked l dep f n).all p = true ↔ ∀ i : Nat, i < n → f i = true → evB dep i = true → leafB l i = false → p i = true := by
  unfold asked
  simp only [List.all_eq_true, List.mem_map, List.mem_filter, List.mem_range, Bool.and_eq_true, Bool.not_eq_true']
  constructor
  · intro h i hi h1 h2 h3
    exact h i ⟨i, ⟨hi, ⟨h1, h2⟩, h3⟩, rfl⟩
  · rintro h x ⟨i, ⟨hi, ⟨h1, h2⟩, h3⟩, rfl⟩
    exact h i hi h1 h2 h3
theorem chk_mem {l : List Nd} {xs : List Int} {i : Int} (h : leafB l i = false) : chk l xs i ∈ kid l i := by
  unfold chk
  split
  · assumption
  · unfold leafB at h
    cases hk : kid l i with
    | nil => rw [hk] at h; simp at h
    | cons a r => simp
theorem PI.same {l : List Nd} {dep : List Int} {ch : Int → Int} {i : Nat} {f : Int → Bool} {out : List Int} {bs' : List Bool} (hT : TF l dep) (h : PI l dep ch i f out) (h' : RP l dep ch l.length 0 bs') : ∀ c : Nat, c ≤ i → c < l.length → f c = bs'.getD c false := by
  intro c
  induction c using Nat.strongRecOn with
  | _ c ih =>
    intro hc hn
    by_cases e : c = 0
    · subst e; rw [h'.r0]; exact h.r0
    · obtain ⟨a, b, ha, hb, hk⟩ := hT.cov c (by omega) hn
      have hl := hT.kin a b ha hb
      have h1 := h.step a b (by omega) hb
      have h2 := h'.step a b (.inl ha) hb
      rw [hk] at h1 h2
      simp only [Int.toNat_natCast] at h2
      rw [h1, h2, ih a (by omega) (by omega) ha]
theorem leavesF_c (w : World) (p : Option Addr) : Calls Try.prog 84 #[.pointer p] w (Ret fun r w' => ∃ b, r = .func (.func 97) #[] #[.pointer (some ⟨b, 0, none⟩)] ∧ Blk w' b #[.pointer p] 69 ∧ Below w.heap.size w w' ∧ w.heap.size ≤ b) := by
  refine calls_W (vs := [_]) Try.func84 rfl (by kernel_rfl) rfl ?_
  (repeat (first | with_reducible refine W.seq ?_ | with_reducible refine Ops.nil ?_ | with_reducible refine W.region ?_ | refine z_p (kk := ?_) | refine z_a (kk := ?_) | refine z_y (kk := ?_) | refine z_n (kk := ?_) | refine z_u (kk := ?_) | with_reducible refine W.skip ?_ | with_reducible refine W.endb ?_ | with_reducible refine W.block ?_ | refine W.exit rfl ?_ | refine z_l (kk := ?_) | refine z_f (kk := ?_) | refine z_M (kk := ?_) | refine z_m (kk := ?_) | refine z_e (kk := ?_) | refine z_E (kk := ?_) | refine z_d (kk := ?_) | refine z_I (kk := fun _ => ?_) | refine z_J (kk := fun _ => ?_) | refine z_K (kk := fun _ => ?_) | refine z_L (kk := fun _ => ?_) | refine z_T (kk := ?_) | refine z_F (kk := ?_) | refine z_k (kk := fun _ _ _ _ _ => ?_) | refine z_w (kk := fun _ _ => ?_) | refine z_s (kk := fun _ _ _ _ => ?_) | refine z_D (kk := ?_) | refine z_g (kk := ?_) | refine z_h (kk := ?_)))
  refine Ops.box rfl rfl rfl rfl (fun w1 b hM => ?_)
  have hb1 : Below w.heap.size w w1 := hM.kp.below (Nat.le_refl _) (fun _ _ e => e)
  (repeat (first | with_reducible refine W.seq ?_ | with_reducible refine Ops.nil ?_ | with_reducible refine W.region ?_ | refine z_p (kk := ?_) | refine z_a (kk := ?_) | refine z_y (kk := ?_) | refine z_n (kk := ?_) | refine z_u (kk := ?_) | with_reducible refine W.skip ?_ | with_reducible refine W.endb ?_ | with_reducible refine W.block ?_ | refine W.exit rfl ?_ | refine z_l (kk := ?_) | refine z_f (kk := ?_) | refine z_M (kk := ?_) | refine z_m (kk := ?_) | refine z_e (kk := ?_) | refine z_E (kk := ?_) | refine z_d (kk := ?_) | refine z_I (kk := fun _ => ?_) | refine z_J (kk := fun _ => ?_) | refine z_K (kk := fun _ => ?_) | refine z_L (kk := fun _ => ?_) | refine z_T (kk := ?_) | refine z_F (kk := ?_) | refine z_k (kk := fun _ _ _ _ _ => ?_) | refine z_w (kk := fun _ _ => ?_) | refine z_s (kk := fun _ _ _ _ => ?_) | refine z_D (kk := ?_) | refine z_g (kk := ?_) | refine z_h (kk := ?_)))
  exact W.fret rfl ⟨b, rfl, hM.at_, hb1, by have := hM.r_eq; omega⟩
def CheckR (l : List Nd) (xs : List Int) (bsF : List Bool) (r : Value) : Prop := match gameOf l with
  | none => r = .tuple #[.int .i64 0, .int .i64 2]
  | some dep => (xs.length = l.length ∧ OkP l dep xs bsF ∧ r = .tuple #[.int .i64 (lst l (fun i => bsF.getD i false) far l.length), .int .i64 0]) ∨ (¬ (xs.length = l.length ∧ OkP l dep xs bsF) ∧ r = .tuple #[.int .i64 0, .int .i64 10])
set_option maxHeartbeats 4000000 in
theorem check_c {w : World} {v sv : Value} {l : List Nd} {xs : List Int} (hT : TreeM w v l) (hl : l.length ≤ 9223372036854775807) (hS : SlI w sv xs) (hxn : xs.length ≤ 1000) {bsF : List Bool} (hbs : ∀ dep, gameOf l = some dep → RP l dep (rd xs) l.length 0 bsF) :
    Calls Try.prog 48 #[v, sv] w (Ret fun r w' => Below w.heap.size w w' ∧ CheckR l xs bsF r) := by
  obtain ⟨At, ct, rfl⟩ := hT.sl
  obtain ⟨Ax, cx, rfl⟩ := Sl.sl hS
  refine calls_W (vs := [_, _]) Try.func48 rfl (by kernel_rfl) rfl ?_
  (repeat (first | with_reducible refine W.seq ?_ | with_reducible refine Ops.nil ?_ | with_reducible refine W.region ?_ | refine z_p (kk := ?_) | refine z_a (kk := ?_) | refine z_y (kk := ?_) | refine z_n (kk := ?_) | refine z_u (kk := ?_) | with_reducible refine W.skip ?_ | with_reducible refine W.endb ?_ | with_reducible refine W.block ?_ | refine W.exit rfl ?_ | refine z_l (kk := ?_) | refine z_f (kk := ?_) | refine z_M (kk := ?_) | refine z_m (kk := ?_) | refine z_e (kk := ?_) | refine z_E (kk := ?_) | refine z_d (kk := ?_) | refine z_I (kk := fun _ => ?_) | refine z_J (kk := fun _ => ?_) | refine z_K (kk := fun _ => ?_) | refine z_L (kk := fun _ => ?_) | refine z_T (kk := ?_) | refine z_F (kk := ?_) | refine z_k (kk := fun _ _ _ _ _ => ?_) | refine z_w (kk := fun _ _ => ?_) | refine z_s (kk := fun _ _ _ _ => ?_) | refine z_D (kk := ?_) | refine z_g (kk := ?_) | refine z_h (kk := ?_)))
  refine Ops.box rfl rfl rfl rfl (fun w1 b1 hM1 => ?_)
  refine Ops.box rfl rfl rfl rfl (fun w2 b2 hM2 => ?_)
  have k2 := hM1.kp.trans hM2.kp
  have hb2 : Below w.heap.size w w2 := Below.put (Below.refl _ _) k2 (fun i hi => by rcases hi with hi | hi <;> exact hi.elim)
  have hB1 : Blk w2 b1 #[.slice At l.length ct] 22 := Blk.kp hM1.at_ hM2.kp (fun e => e)
  have hB2 : Blk w2 b2 #[.slice Ax xs.length cx] 24 := hM2.at_
  have hT2 := hT.below hb2
  have hS2 := Sl.below hS hb2
  clear hT hS
  (repeat (first | with_reducible refine W.seq ?_ | with_reducible refine Ops.nil ?_ | with_reducible refine W.region ?_ | refine z_p (kk := ?_) | refine z_a (kk := ?_) | refine z_y (kk := ?_) | refine z_n (kk := ?_) | refine z_u (kk := ?_) | with_reducible refine W.skip ?_ | with_reducible refine W.endb ?_ | with_reducible refine W.block ?_ | refine W.exit rfl ?_ | refine z_l (kk := ?_) | refine z_f (kk := ?_) | refine z_M (kk := ?_) | refine z_m (kk := ?_) | refine z_e (kk := ?_) | refine z_E (kk := ?_) | refine z_d (kk := ?_) | refine z_I (kk := fun _ => ?_) | refine z_J (kk := fun _ => ?_) | refine z_K (kk := fun _ => ?_) | refine z_L (kk := fun _ => ?_) | refine z_T (kk := ?_) | refine z_F (kk := ?_) | refine z_k (kk := fun _ _ _ _ _ => ?_) | refine z_w (kk := fun _ _ => ?_) | refine z_s (kk := fun _ _ _ _ => ?_) | refine z_D (kk := ?_) | refine z_g (kk := ?_) | refine z_h (kk := ?_)))
  refine Ops.call rfl rfl rfl rfl rfl (newGame_c hT2 hl) (fun r w3 hR => ?_)
  obtain ⟨hb3, hR⟩ := hR
  have hb03 := Below.via hb2 hb3
  unfold CheckR
  cases hg : gameOf l with
  | none =>
    rw [hg] at hR
    obtain ⟨p, hp1, rfl⟩ := hR
    (repeat (first | with_reducible refine W.seq ?_ | with_reducible refine Ops.nil ?_ | with_reducible refine W.region ?_ | refine z_p (kk := ?_) | refine z_a (kk := ?_) | refine z_y (kk := ?_) | refine z_n (kk := ?_) | refine z_u (kk := ?_) | with_reducible refine W.skip ?_ | with_reducible refine W.endb ?_ | with_reducible refine W.block ?_ | refine W.exit rfl ?_ | refine z_l (kk := ?_) | refine z_f (kk := ?_) | refine z_M (kk := ?_) | refine z_m (kk := ?_) | refine z_e (kk := ?_) | refine z_E (kk := ?_) | refine z_d (kk := ?_) | refine z_I (kk := fun _ => ?_) | refine z_J (kk := fun _ => ?_) | refine z_K (kk := fun _ => ?_) | refine z_L (kk := fun _ => ?_) | refine z_T (kk := ?_) | refine z_F (kk := ?_) | refine z_k (kk := fun _ _ _ _ _ => ?_) | refine z_w (kk := fun _ _ => ?_) | refine z_s (kk := fun _ _ _ _ => ?_) | refine z_D (kk := ?_) | refine z_g (kk := ?_) | refine z_h (kk := ?_)))
    refine Ops.alloc rfl rfl rfl rfl (fun w4 g6 hM3 => ?_)
    refine Ops.st rfl rfl rfl rfl rfl rfl hp1 hM3.at_ (by decide) (fun w5 hu => ?_)
    have k4 := hM3.kp.trans hu.kp
    have hb05 : Below w.heap.size w w5 := Below.put hb03 k4 (fun i hi => by rcases hi with hi | hi; exact hi.elim; have := hM3.r_eq; have := hb03.size; omega)
    (repeat (first | with_reducible refine W.seq ?_ | with_reducible refine Ops.nil ?_ | with_reducible refine W.region ?_ | refine z_p (kk := ?_) | refine z_a (kk := ?_) | refine z_y (kk := ?_) | refine z_n (kk := ?_) | refine z_u (kk := ?_) | with_reducible refine W.skip ?_ | with_reducible refine W.endb ?_ | with_reducible refine W.block ?_ | refine W.exit rfl ?_ | refine z_l (kk := ?_) | refine z_f (kk := ?_) | refine z_M (kk := ?_) | refine z_m (kk := ?_) | refine z_e (kk := ?_) | refine z_E (kk := ?_) | refine z_d (kk := ?_) | refine z_I (kk := fun _ => ?_) | refine z_J (kk := fun _ => ?_) | refine z_K (kk := fun _ => ?_) | refine z_L (kk := fun _ => ?_) | refine z_T (kk := ?_) | refine z_F (kk := ?_) | refine z_k (kk := fun _ _ _ _ _ => ?_) | refine z_w (kk := fun _ _ => ?_) | refine z_s (kk := fun _ _ _ _ => ?_) | refine z_D (kk := ?_) | refine z_g (kk := ?_) | refine z_h (kk := ?_)))
    refine W.condT rfl (by first | rfl | assumption | (simp only [bnf] <;> omega) | (simp only [*, bnf]; done) | fail) ?_
    (repeat (first | with_reducible refine W.seq ?_ | with_reducible refine Ops.nil ?_ | with_reducible refine W.region ?_ | refine z_p (kk := ?_) | refine z_a (kk := ?_) | refine z_y (kk := ?_) | refine z_n (kk := ?_) | refine z_u (kk := ?_) | with_reducible refine W.skip ?_ | with_reducible refine W.endb ?_ | with_reducible refine W.block ?_ | refine W.exit rfl ?_ | refine z_l (kk := ?_) | refine z_f (kk := ?_) | refine z_M (kk := ?_) | refine z_m (kk := ?_) | refine z_e (kk := ?_) | refine z_E (kk := ?_) | refine z_d (kk := ?_) | refine z_I (kk := fun _ => ?_) | refine z_J (kk := fun _ => ?_) | refine z_K (kk := fun _ => ?_) | refine z_L (kk := fun _ => ?_) | refine z_T (kk := ?_) | refine z_F (kk := ?_) | refine z_k (kk := fun _ _ _ _ _ => ?_) | refine z_w (kk := fun _ _ => ?_) | refine z_s (kk := fun _ _ _ _ => ?_) | refine z_D (kk := ?_) | refine z_g (kk := ?_) | refine z_h (kk := ?_)))
    exact W.fret rfl ⟨hb05, rfl⟩
  | some dep =>
    rw [hg] at hR
    obtain ⟨g, rfl, hgs, hG⟩ := hR
    have hTF := gameOf_TF hg
    have hn1 := hTF.n1
    have hn60 := hTF.n60
    have hdl := hTF.len
    (repeat (first | with_reducible refine W.seq ?_ | with_reducible refine Ops.nil ?_ | with_reducible refine W.region ?_ | refine z_p (kk := ?_) | refine z_a (kk := ?_) | refine z_y (kk := ?_) | refine z_n (kk := ?_) | refine z_u (kk := ?_) | with_reducible refine W.skip ?_ | with_reducible refine W.endb ?_ | with_reducible refine W.block ?_ | refine W.exit rfl ?_ | refine z_l (kk := ?_) | refine z_f (kk := ?_) | refine z_M (kk := ?_) | refine z_m (kk := ?_) | refine z_e (kk := ?_) | refine z_E (kk := ?_) | refine z_d (kk := ?_) | refine z_I (kk := fun _ => ?_) | refine z_J (kk := fun _ => ?_) | refine z_K (kk := fun _ => ?_) | refine z_L (kk := fun _ => ?_) | refine z_T (kk := ?_) | refine z_F (kk := ?_) | refine z_k (kk := fun _ _ _ _ _ => ?_) | refine z_w (kk := fun _ _ => ?_) | refine z_s (kk := fun _ _ _ _ => ?_) | refine z_D (kk := ?_) | refine z_g (kk := ?_) | refine z_h (kk := ?_)))
    refine Ops.alloc rfl rfl rfl rfl (fun w4 b6 hM3 => ?_)
    refine Ops.st rfl rfl rfl rfl rfl rfl rfl hM3.at_ (by decide) (fun w5 hu => ?_)
    have k4 := hM3.kp.trans hu.kp
    have hr3 := hM3.r_eq
    have hb35 : Below w3.heap.size w3 w5 := Below.put (Below.refl _ _) k4 (fun i hi => by rcases hi with hi | hi; exact hi.elim; omega)
    have hb25 := Below.via hb3 hb35
    have hb05 := Below.via hb2 hb25
    have hG5 := hG.below hb35
    have hB6 : Blk w5 b6 #[.pointer (some ⟨g, 0, none⟩)] 69 := hu.blk
    have hB15 := hB1.kp (Kp.of_below (S := fun _ => False) hb25) (fun e => e)
    have hB25 := hB2.kp (Kp.of_below (S := fun _ => False) hb25) (fun e => e)
    have hT5 := hT2.below hb25
    have hS5 := Sl.below hS2 hb25
    clear hG hB1 hB2 hT2 hS2 hu hM3 hM1 hM2 k2 k4
    (repeat (first | with_reducible refine W.seq ?_ | with_reducible refine Ops.nil ?_ | with_reducible refine W.region ?_ | refine z_p (kk := ?_) | refine z_a (kk := ?_) | refine z_y (kk := ?_) | refine z_n (kk := ?_) | refine z_u (kk := ?_) | with_reducible refine W.skip ?_ | with_reducible refine W.endb ?_ | with_reducible refine W.block ?_ | refine W.exit rfl ?_ | refine z_l (kk := ?_) | refine z_f (kk := ?_) | refine z_M (kk := ?_) | refine z_m (kk := ?_) | refine z_e (kk := ?_) | refine z_E (kk := ?_) | refine z_d (kk := ?_) | refine z_I (kk := fun _ => ?_) | refine z_J (kk := fun _ => ?_) | refine z_K (kk := fun _ => ?_) | refine z_L (kk := fun _ => ?_) | refine z_T (kk := ?_) | refine z_F (kk := ?_) | refine z_k (kk := fun _ _ _ _ _ => ?_) | refine z_w (kk := fun _ _ => ?_) | refine z_s (kk := fun _ _ _ _ => ?_) | refine z_D (kk := ?_) | refine z_g (kk := ?_) | refine z_h (kk := ?_)))
    refine W.condF rfl (by first | rfl | assumption | (simp only [bnf] <;> omega) | (simp only [*, bnf]; done) | fail) ?_
    (repeat (first | with_reducible refine W.seq ?_ | with_reducible refine Ops.nil ?_ | with_reducible refine W.region ?_ | refine z_p (kk := ?_) | refine z_a (kk := ?_) | refine z_y (kk := ?_) | refine z_n (kk := ?_) | refine z_u (kk := ?_) | with_reducible refine W.skip ?_ | with_reducible refine W.endb ?_ | with_reducible refine W.block ?_ | refine W.exit rfl ?_ | refine z_l (kk := ?_) | refine z_f (kk := ?_) | refine z_M (kk := ?_) | refine z_m (kk := ?_) | refine z_e (kk := ?_) | refine z_E (kk := ?_) | refine z_d (kk := ?_) | refine z_I (kk := fun _ => ?_) | refine z_J (kk := fun _ => ?_) | refine z_K (kk := fun _ => ?_) | refine z_L (kk := fun _ => ?_) | refine z_T (kk := ?_) | refine z_F (kk := ?_) | refine z_k (kk := fun _ _ _ _ _ => ?_) | refine z_w (kk := fun _ _ => ?_) | refine z_s (kk := fun _ _ _ _ => ?_) | refine z_D (kk := ?_) | refine z_g (kk := ?_) | refine z_h (kk := ?_)))
    by_cases hxl : xs.length = l.length
    · refine W.condF rfl (by first | rfl | assumption | (simp only [bnf] <;> omega) | (simp only [*, bnf]; done) | fail) ?_
      (repeat (first | with_reducible refine W.seq ?_ | with_reducible refine Ops.nil ?_ | with_reducible refine W.region ?_ | refine z_p (kk := ?_) | refine z_a (kk := ?_) | refine z_y (kk := ?_) | refine z_n (kk := ?_) | refine z_u (kk := ?_) | with_reducible refine W.skip ?_ | with_reducible refine W.endb ?_ | with_reducible refine W.block ?_ | refine W.exit rfl ?_ | refine z_l (kk := ?_) | refine z_f (kk := ?_) | refine z_M (kk := ?_) | refine z_m (kk := ?_) | refine z_e (kk := ?_) | refine z_E (kk := ?_) | refine z_d (kk := ?_) | refine z_I (kk := fun _ => ?_) | refine z_J (kk := fun _ => ?_) | refine z_K (kk := fun _ => ?_) | refine z_L (kk := fun _ => ?_) | refine z_T (kk := ?_) | refine z_F (kk := ?_) | refine z_k (kk := fun _ _ _ _ _ => ?_) | refine z_w (kk := fun _ _ => ?_) | refine z_s (kk := fun _ _ _ _ => ?_) | refine z_D (kk := ?_) | refine z_g (kk := ?_) | refine z_h (kk := ?_)))
      refine Ops.alloc rfl rfl rfl rfl (fun w6 b8 hM8 => ?_)
      refine Ops.st rfl rfl rfl rfl rfl rfl rfl hM8.at_ (by decide) (fun w7 hu8 => ?_)
      have k8 := hM8.kp.trans hu8.kp
      have hr8 := hM8.r_eq
      have hsz7 : b8 < w7.heap.size := by have := hM8.size; have := hu8.kp.size; omega
      have hb57 : Below w5.heap.size w5 w7 := Below.put (Below.refl _ _) k8 (fun i hi => by rcases hi with hi | hi; exact hi.elim; omega)
      have hB8 : Blk w7 b8 #[.bool true] 4 := hu8.blk
      (repeat (first | with_reducible refine W.seq ?_ | with_reducible refine Ops.nil ?_ | with_reducible refine W.region ?_ | refine z_p (kk := ?_) | refine z_a (kk := ?_) | refine z_y (kk := ?_) | refine z_n (kk := ?_) | refine z_u (kk := ?_) | with_reducible refine W.skip ?_ | with_reducible refine W.endb ?_ | with_reducible refine W.block ?_ | refine W.exit rfl ?_ | refine z_l (kk := ?_) | refine z_f (kk := ?_) | refine z_M (kk := ?_) | refine z_m (kk := ?_) | refine z_e (kk := ?_) | refine z_E (kk := ?_) | refine z_d (kk := ?_) | refine z_I (kk := fun _ => ?_) | refine z_J (kk := fun _ => ?_) | refine z_K (kk := fun _ => ?_) | refine z_L (kk := fun _ => ?_) | refine z_T (kk := ?_) | refine z_F (kk := ?_) | refine z_k (kk := fun _ _ _ _ _ => ?_) | refine z_w (kk := fun _ _ => ?_) | refine z_s (kk := fun _ _ _ _ => ?_) | refine z_D (kk := ?_) | refine z_g (kk := ?_) | refine z_h (kk := ?_)))
      have hbsF := hbs dep hg
      refine Ops.call rfl rfl rfl rfl rfl (plan_c (wB := w5) (first := []) (cap := [.pointer (some ⟨b1, 0, none⟩), .pointer (some ⟨b2, 0, none⟩), .pointer (some ⟨b8, 0, none⟩)]) (fi := 81) (ch := chk l xs) (S := fun k => k = b8) (J := fun t w' => Blk w' b8 #[.bool (t.all fun i => decide (rd xs i ∈ kid l i))] 4) hG5 hb57 hTF rfl (fun i hi hlf => chk_mem hlf)
        (fun t i w' hi hlf hev hb' hJ => ?_) (fun i h => ⟨by omega, by omega⟩) (fun t wa wb T hJ hk hT => hJ.kp hk (fun e => by have := hT _ e; omega)) hB8) (fun r w8 hR => ?_)
      · refine (check1_c hTF hB15 hT5 hB25 hS5 hxl hb' (by omega) hJ i hi hlf).mono ?_
        rintro e w'' ⟨v, he, hv, hb'', hk, hB⟩
        exact ⟨v, he, hv, hb'', by rw [List.all_append]; simpa using hB, hk⟩
      obtain ⟨f, out, hP, hO, hB8'⟩ := hR
      have hb58 := hO.bel
      have hb08 := Below.via hb05 hb58
      have ho8 : SlI w8 r out := hO.sl
      have hol := hP.len
      obtain ⟨Ao, co, rfl⟩ := Sl.sl ho8
      generalize hq : (asked l dep f l.length).all (fun i => decide (rd xs i ∈ kid l i)) = q at *
      (repeat (first | with_reducible refine W.seq ?_ | with_reducible refine Ops.nil ?_ | with_reducible refine W.region ?_ | refine z_p (kk := ?_) | refine z_a (kk := ?_) | refine z_y (kk := ?_) | refine z_n (kk := ?_) | refine z_u (kk := ?_) | with_reducible refine W.skip ?_ | with_reducible refine W.endb ?_ | with_reducible refine W.block ?_ | refine W.exit rfl ?_ | refine z_l (kk := ?_) | refine z_f (kk := ?_) | refine z_M (kk := ?_) | refine z_m (kk := ?_) | refine z_e (kk := ?_) | refine z_E (kk := ?_) | refine z_d (kk := ?_) | refine z_I (kk := fun _ => ?_) | refine z_J (kk := fun _ => ?_) | refine z_K (kk := fun _ => ?_) | refine z_L (kk := fun _ => ?_) | refine z_T (kk := ?_) | refine z_F (kk := ?_) | refine z_k (kk := fun _ _ _ _ _ => ?_) | refine z_w (kk := fun _ _ => ?_) | refine z_s (kk := fun _ _ _ _ => ?_) | refine z_D (kk := ?_) | refine z_g (kk := ?_) | refine z_h (kk := ?_)))
      refine Ops.cut (fun ρ w' => ρ = [(2, .pointer (some ⟨b1, 0, none⟩)), (3, .pointer (some ⟨b2, 0, none⟩)), (6, .pointer (some ⟨b6, 0, none⟩)), (39, .bool (!(q && decide (out = xs))))] ∧ Below w8.heap.size w8 w') ?_ ?_
      · cases q with
        | false =>
          (repeat (first | with_reducible refine W.seq ?_ | with_reducible refine Ops.nil ?_ | with_reducible refine W.region ?_ | refine z_p (kk := ?_) | refine z_a (kk := ?_) | refine z_y (kk := ?_) | refine z_n (kk := ?_) | refine z_u (kk := ?_) | with_reducible refine W.skip ?_ | with_reducible refine W.endb ?_ | with_reducible refine W.block ?_ | refine W.exit rfl ?_ | refine z_l (kk := ?_) | refine z_f (kk := ?_) | refine z_M (kk := ?_) | refine z_m (kk := ?_) | refine z_e (kk := ?_) | refine z_E (kk := ?_) | refine z_d (kk := ?_) | refine z_I (kk := fun _ => ?_) | refine z_J (kk := fun _ => ?_) | refine z_K (kk := fun _ => ?_) | refine z_L (kk := fun _ => ?_) | refine z_T (kk := ?_) | refine z_F (kk := ?_) | refine z_k (kk := fun _ _ _ _ _ => ?_) | refine z_w (kk := fun _ _ => ?_) | refine z_s (kk := fun _ _ _ _ => ?_) | refine z_D (kk := ?_) | refine z_g (kk := ?_) | refine z_h (kk := ?_)))
          exact W.endl ⟨_, ⟨rfl, Below.refl _ _⟩, (by repeat (first | exact trivial | refine And.intro rfl ?_))⟩
        | true =>
          (repeat (first | with_reducible refine W.seq ?_ | with_reducible refine Ops.nil ?_ | with_reducible refine W.region ?_ | refine z_p (kk := ?_) | refine z_a (kk := ?_) | refine z_y (kk := ?_) | refine z_n (kk := ?_) | refine z_u (kk := ?_) | with_reducible refine W.skip ?_ | with_reducible refine W.endb ?_ | with_reducible refine W.block ?_ | refine W.exit rfl ?_ | refine z_l (kk := ?_) | refine z_f (kk := ?_) | refine z_M (kk := ?_) | refine z_m (kk := ?_) | refine z_e (kk := ?_) | refine z_E (kk := ?_) | refine z_d (kk := ?_) | refine z_I (kk := fun _ => ?_) | refine z_J (kk := fun _ => ?_) | refine z_K (kk := fun _ => ?_) | refine z_L (kk := fun _ => ?_) | refine z_T (kk := ?_) | refine z_F (kk := ?_) | refine z_k (kk := fun _ _ _ _ _ => ?_) | refine z_w (kk := fun _ _ => ?_) | refine z_s (kk := fun _ _ _ _ => ?_) | refine z_D (kk := ?_) | refine z_g (kk := ?_) | refine z_h (kk := ?_)))
          refine Ops.call rfl rfl rfl rfl rfl (equal_c ho8 (Sl.below hS5 hb58) (by omega) (by omega)) (fun r w9 hR => ?_)
          obtain ⟨rfl, hb9⟩ := hR
          (repeat (first | with_reducible refine W.seq ?_ | with_reducible refine Ops.nil ?_ | with_reducible refine W.region ?_ | refine z_p (kk := ?_) | refine z_a (kk := ?_) | refine z_y (kk := ?_) | refine z_n (kk := ?_) | refine z_u (kk := ?_) | with_reducible refine W.skip ?_ | with_reducible refine W.endb ?_ | with_reducible refine W.block ?_ | refine W.exit rfl ?_ | refine z_l (kk := ?_) | refine z_f (kk := ?_) | refine z_M (kk := ?_) | refine z_m (kk := ?_) | refine z_e (kk := ?_) | refine z_E (kk := ?_) | refine z_d (kk := ?_) | refine z_I (kk := fun _ => ?_) | refine z_J (kk := fun _ => ?_) | refine z_K (kk := fun _ => ?_) | refine z_L (kk := fun _ => ?_) | refine z_T (kk := ?_) | refine z_F (kk := ?_) | refine z_k (kk := fun _ _ _ _ _ => ?_) | refine z_w (kk := fun _ _ => ?_) | refine z_s (kk := fun _ _ _ _ => ?_) | refine z_D (kk := ?_) | refine z_g (kk := ?_) | refine z_h (kk := ?_)))
          refine W.endl ⟨_, ⟨rfl, hb9⟩, ?_⟩
          rw [Bool.true_and]
          exact (by repeat (first | exact trivial | refine And.intro rfl ?_))
      rintro ρ w9 ⟨rfl, hb89⟩
      have hb59 := Below.via hb58 hb89
      have hb09 := Below.via hb05 hb59
      by_cases hgo : q = true ∧ out = xs
      · obtain ⟨rfl, rfl⟩ := hgo
        rw [decide_eq_true rfl]
        have hok : OkP l dep out bsF := ok_of_plan hTF hbsF hP (fun i hi h1 h2 h3 => of_decide_eq_true (asked_all.1 hq i hi h1 h2 h3))
        refine W.condF rfl rfl ?_
        (repeat (first | with_reducible refine W.seq ?_ | with_reducible refine Ops.nil ?_ | with_reducible refine W.region ?_ | refine z_p (kk := ?_) | refine z_a (kk := ?_) | refine z_y (kk := ?_) | refine z_n (kk := ?_) | refine z_u (kk := ?_) | with_reducible refine W.skip ?_ | with_reducible refine W.endb ?_ | with_reducible refine W.block ?_ | refine W.exit rfl ?_ | refine z_l (kk := ?_) | refine z_f (kk := ?_) | refine z_M (kk := ?_) | refine z_m (kk := ?_) | refine z_e (kk := ?_) | refine z_E (kk := ?_) | refine z_d (kk := ?_) | refine z_I (kk := fun _ => ?_) | refine z_J (kk := fun _ => ?_) | refine z_K (kk := fun _ => ?_) | refine z_L (kk := fun _ => ?_) | refine z_T (kk := ?_) | refine z_F (kk := ?_) | refine z_k (kk := fun _ _ _ _ _ => ?_) | refine z_w (kk := fun _ _ => ?_) | refine z_s (kk := fun _ _ _ _ => ?_) | refine z_D (kk := ?_) | refine z_g (kk := ?_) | refine z_h (kk := ?_)))
        clear hO hB8' hB8 ho8 hP hq
        refine Ops.mkM rfl rfl rfl (fun wa mb hma ka hmb => ?_)
        refine Ops.ins rfl rfl rfl rfl rfl rfl rfl rfl hma (fun wb' hmb' kb hzb => ?_)
        have hm4 : MapB wb' mb (fun k => k == 0) := by simpa using hmb'
        have hb9b : Below w9.heap.size w9 wb' := Below.put (Below.put (Below.refl _ _) ka (fun _ e => e.elim)) kb (fun i hi => by omega)
        (repeat (first | with_reducible refine W.seq ?_ | with_reducible refine Ops.nil ?_ | with_reducible refine W.region ?_ | refine z_p (kk := ?_) | refine z_a (kk := ?_) | refine z_y (kk := ?_) | refine z_n (kk := ?_) | refine z_u (kk := ?_) | with_reducible refine W.skip ?_ | with_reducible refine W.endb ?_ | with_reducible refine W.block ?_ | refine W.exit rfl ?_ | refine z_l (kk := ?_) | refine z_f (kk := ?_) | refine z_M (kk := ?_) | refine z_m (kk := ?_) | refine z_e (kk := ?_) | refine z_E (kk := ?_) | refine z_d (kk := ?_) | refine z_I (kk := fun _ => ?_) | refine z_J (kk := fun _ => ?_) | refine z_K (kk := fun _ => ?_) | refine z_L (kk := fun _ => ?_) | refine z_T (kk := ?_) | refine z_F (kk := ?_) | refine z_k (kk := fun _ _ _ _ _ => ?_) | refine z_w (kk := fun _ _ => ?_) | refine z_s (kk := fun _ _ _ _ => ?_) | refine z_D (kk := ?_) | refine z_g (kk := ?_) | refine z_h (kk := ?_)))
        refine Ops.alloc rfl rfl rfl rfl (fun wc b10 hMc => ?_)
        refine Ops.st rfl rfl rfl rfl rfl rfl rfl hMc.at_ (by decide) (fun wd hud => ?_)
        have kd := hMc.kp.trans hud.kp
        have hr10 := hMc.r_eq
        have hb9d : Below w9.heap.size w9 wd := Below.put hb9b kd (fun i hi => by rcases hi with hi | hi; exact hi.elim; have := hb9b.size; omega)
        have hmd := hm4.kp kd (fun hi => by rcases hi with hi | hi; exact hi.elim; have := hm4.lt; omega)
        have hB10 : Blk wd b10 #[.map (some mb)] 79 := hud.blk
        have hne10 : mb ≠ b10 := by have := hm4.lt; omega
        have hb5d := Below.via hb59 hb9d
        have hmb5 : w5.heap.size ≤ mb := by have := hb59.size; omega
        have hb105 : w5.heap.size ≤ b10 := by have := hb5d.size; have := hb59.size; have := hb9b.size; omega
        have hP0 := PI.start l dep (rd out)
        clear hmb' hm4 hma hMc hud
        (repeat (first | with_reducible refine W.seq ?_ | with_reducible refine Ops.nil ?_ | with_reducible refine W.region ?_ | refine z_p (kk := ?_) | refine z_a (kk := ?_) | refine z_y (kk := ?_) | refine z_n (kk := ?_) | refine z_u (kk := ?_) | with_reducible refine W.skip ?_ | with_reducible refine W.endb ?_ | with_reducible refine W.block ?_ | refine W.exit rfl ?_ | refine z_l (kk := ?_) | refine z_f (kk := ?_) | refine z_M (kk := ?_) | refine z_m (kk := ?_) | refine z_e (kk := ?_) | refine z_E (kk := ?_) | refine z_d (kk := ?_) | refine z_I (kk := fun _ => ?_) | refine z_J (kk := fun _ => ?_) | refine z_K (kk := fun _ => ?_) | refine z_L (kk := fun _ => ?_) | refine z_T (kk := ?_) | refine z_F (kk := ?_) | refine z_k (kk := fun _ _ _ _ _ => ?_) | refine z_w (kk := fun _ _ => ?_) | refine z_s (kk := fun _ _ _ _ => ?_) | refine z_D (kk := ?_) | refine z_g (kk := ?_) | refine z_h (kk := ?_)))
        refine W.loop (fun m ρ w' => ∃ (i : Nat) (f : Int → Bool) (gh : List Int), m = l.length - i ∧ i ≤ l.length ∧ ρ = [(3, .pointer (some ⟨b2, 0, none⟩)), (6, .pointer (some ⟨b6, 0, none⟩)), (10, .pointer (some ⟨b10, 0, none⟩)), (42, .slice At l.length ct), (43, .int .i64 l.length), (44, .int .i64 i)] ∧ Below w5.heap.size w5 w' ∧ Blk w' b10 #[.map (some mb)] 79 ∧ MapB w' mb f ∧ PI l dep (rd out) i f gh)
          ⟨_, _, ⟨0, _, _, rfl, Nat.zero_le _, rfl, hb5d, hB10, hmd, hP0⟩, (by repeat (first | exact trivial | refine And.intro rfl ?_))⟩ ?_
        clear hB10 hmd hP0 hb5d hb9d
        rintro m ρ w10 ⟨i, f2, gh, rfl, hi, rfl, hb10, hB10, hM, hP2⟩
        (repeat (first | with_reducible refine W.seq ?_ | with_reducible refine Ops.nil ?_ | with_reducible refine W.region ?_ | refine z_p (kk := ?_) | refine z_a (kk := ?_) | refine z_y (kk := ?_) | refine z_n (kk := ?_) | refine z_u (kk := ?_) | with_reducible refine W.skip ?_ | with_reducible refine W.endb ?_ | with_reducible refine W.block ?_ | refine W.exit rfl ?_ | refine z_l (kk := ?_) | refine z_f (kk := ?_) | refine z_M (kk := ?_) | refine z_m (kk := ?_) | refine z_e (kk := ?_) | refine z_E (kk := ?_) | refine z_d (kk := ?_) | refine z_I (kk := fun _ => ?_) | refine z_J (kk := fun _ => ?_) | refine z_K (kk := fun _ => ?_) | refine z_L (kk := fun _ => ?_) | refine z_T (kk := ?_) | refine z_F (kk := ?_) | refine z_k (kk := fun _ _ _ _ _ => ?_) | refine z_w (kk := fun _ _ => ?_) | refine z_s (kk := fun _ _ _ _ => ?_) | refine z_D (kk := ?_) | refine z_g (kk := ?_) | refine z_h (kk := ?_)))
        (first | refine W.condD rfl (fun hc => ?_) (fun hc => ?_) | refine W.condE rfl (fun hc => ?_) (fun hc => ?_) | refine W.condN rfl (fun hc => ?_) (fun hc => ?_) | refine W.cond rfl (fun hc => ?_) (fun hc => ?_))
        · have hil : i < l.length := by omega
          (repeat (first | with_reducible refine W.seq ?_ | with_reducible refine Ops.nil ?_ | with_reducible refine W.region ?_ | refine z_p (kk := ?_) | refine z_a (kk := ?_) | refine z_y (kk := ?_) | refine z_n (kk := ?_) | refine z_u (kk := ?_) | with_reducible refine W.skip ?_ | with_reducible refine W.endb ?_ | with_reducible refine W.block ?_ | refine W.exit rfl ?_ | refine z_l (kk := ?_) | refine z_f (kk := ?_) | refine z_M (kk := ?_) | refine z_m (kk := ?_) | refine z_e (kk := ?_) | refine z_E (kk := ?_) | refine z_d (kk := ?_) | refine z_I (kk := fun _ => ?_) | refine z_J (kk := fun _ => ?_) | refine z_K (kk := fun _ => ?_) | refine z_L (kk := fun _ => ?_) | refine z_T (kk := ?_) | refine z_F (kk := ?_) | refine z_g (kk := ?_) | refine z_h (kk := ?_)))
          refine Ops.rdNB rfl rfl rfl rfl rfl rfl (fun _ => rfl) rfl rfl rfl rfl rfl rfl rfl hT5 hb10 (by omega) (by omega) (fun Ak ck _ hks => ?_)
          refine Ops.alloc rfl rfl rfl rfl (fun w11 b12 hM6 => ?_)
          (repeat (first | with_reducible refine W.seq ?_ | with_reducible refine Ops.nil ?_ | with_reducible refine W.region ?_ | refine z_p (kk := ?_) | refine z_a (kk := ?_) | refine z_y (kk := ?_) | refine z_n (kk := ?_) | refine z_u (kk := ?_) | with_reducible refine W.skip ?_ | with_reducible refine W.endb ?_ | with_reducible refine W.block ?_ | refine W.exit rfl ?_ | refine z_l (kk := ?_) | refine z_f (kk := ?_) | refine z_M (kk := ?_) | refine z_m (kk := ?_) | refine z_e (kk := ?_) | refine z_E (kk := ?_) | refine z_d (kk := ?_) | refine z_I (kk := fun _ => ?_) | refine z_J (kk := fun _ => ?_) | refine z_K (kk := fun _ => ?_) | refine z_L (kk := fun _ => ?_) | refine z_T (kk := ?_) | refine z_F (kk := ?_) | refine z_k (kk := fun _ _ _ _ _ => ?_) | refine z_w (kk := fun _ _ => ?_) | refine z_s (kk := fun _ _ _ _ => ?_) | refine z_D (kk := ?_) | refine z_g (kk := ?_) | refine z_h (kk := ?_)))
          refine Ops.st2 rfl rfl rfl rfl rfl rfl rfl rfl hM6.at_ (fun w12 hu7 => ?_)
          have k7 := hM6.kp.trans hu7.kp
          have e6 := hM6.r_eq
          have hB12 := hu7.blk
          have hb12 : Below w5.heap.size w5 w12 := Below.put hb10 k7 (fun j hj => by rcases hj with hj | hj; exact hj.elim; have := hb10.size; omega)
          have hM12 := hM.kp k7 (fun hj => by rcases hj with hj | hj; exact hj.elim; have := hM.lt; omega)
          have hB1012 := hB10.kp k7 (fun hj => by rcases hj with hj | hj; exact hj.elim; have := hB10.lt; omega)
          have hG12 := hG5.below hb12
          have hsame := PI.same hTF hP2 hbsF i (Nat.le_refl _) hil
          clear hM hB10
          (repeat (first | with_reducible refine W.seq ?_ | with_reducible refine Ops.nil ?_ | with_reducible refine W.region ?_ | refine z_p (kk := ?_) | refine z_a (kk := ?_) | refine z_y (kk := ?_) | refine z_n (kk := ?_) | refine z_u (kk := ?_) | with_reducible refine W.skip ?_ | with_reducible refine W.endb ?_ | with_reducible refine W.block ?_ | refine W.exit rfl ?_ | refine z_l (kk := ?_) | refine z_f (kk := ?_) | refine z_M (kk := ?_) | refine z_m (kk := ?_) | refine z_e (kk := ?_) | refine z_E (kk := ?_) | refine z_d (kk := ?_) | refine z_I (kk := fun _ => ?_) | refine z_J (kk := fun _ => ?_) | refine z_K (kk := fun _ => ?_) | refine z_L (kk := fun _ => ?_) | refine z_T (kk := ?_) | refine z_F (kk := ?_) | refine z_k (kk := fun _ _ _ _ _ => ?_) | refine z_w (kk := fun _ _ => ?_) | refine z_s (kk := fun _ _ _ _ => ?_) | refine z_D (kk := ?_) | refine z_g (kk := ?_) | refine z_h (kk := ?_)))
          refine Ops.look rfl rfl rfl rfl rfl rfl rfl rfl hM12 ?_
          cases hfi : f2 i with
          | false =>
            (repeat (first | with_reducible refine W.seq ?_ | with_reducible refine Ops.nil ?_ | with_reducible refine W.region ?_ | refine z_p (kk := ?_) | refine z_a (kk := ?_) | refine z_y (kk := ?_) | refine z_n (kk := ?_) | refine z_u (kk := ?_) | with_reducible refine W.skip ?_ | with_reducible refine W.endb ?_ | with_reducible refine W.block ?_ | refine W.exit rfl ?_ | refine z_l (kk := ?_) | refine z_f (kk := ?_) | refine z_M (kk := ?_) | refine z_m (kk := ?_) | refine z_e (kk := ?_) | refine z_E (kk := ?_) | refine z_d (kk := ?_) | refine z_I (kk := fun _ => ?_) | refine z_J (kk := fun _ => ?_) | refine z_K (kk := fun _ => ?_) | refine z_L (kk := fun _ => ?_) | refine z_T (kk := ?_) | refine z_F (kk := ?_) | refine z_k (kk := fun _ _ _ _ _ => ?_) | refine z_w (kk := fun _ _ => ?_) | refine z_s (kk := fun _ _ _ _ => ?_) | refine z_D (kk := ?_) | refine z_g (kk := ?_) | refine z_h (kk := ?_)))
            refine W.condT rfl (by first | rfl | assumption | (simp only [bnf] <;> omega) | (simp only [*, bnf]; done) | fail) ?_
            (repeat (first | with_reducible refine W.seq ?_ | with_reducible refine Ops.nil ?_ | with_reducible refine W.region ?_ | refine z_p (kk := ?_) | refine z_a (kk := ?_) | refine z_y (kk := ?_) | refine z_n (kk := ?_) | refine z_u (kk := ?_) | with_reducible refine W.skip ?_ | with_reducible refine W.endb ?_ | with_reducible refine W.block ?_ | refine W.exit rfl ?_ | refine z_l (kk := ?_) | refine z_f (kk := ?_) | refine z_M (kk := ?_) | refine z_m (kk := ?_) | refine z_e (kk := ?_) | refine z_E (kk := ?_) | refine z_d (kk := ?_) | refine z_I (kk := fun _ => ?_) | refine z_J (kk := fun _ => ?_) | refine z_K (kk := fun _ => ?_) | refine z_L (kk := fun _ => ?_) | refine z_T (kk := ?_) | refine z_F (kk := ?_) | refine z_k (kk := fun _ _ _ _ _ => ?_) | refine z_w (kk := fun _ _ => ?_) | refine z_s (kk := fun _ _ _ _ => ?_) | refine z_D (kk := ?_) | refine z_g (kk := ?_) | refine z_h (kk := ?_)))
            exact W.endl ⟨_, _, ⟨⟨i + 1, f2, gh, rfl, by omega, rfl, hb12, hB1012, hM12, hP2.skip hTF hil (.inl hfi)⟩, by omega⟩, (by repeat (first | exact trivial | refine And.intro rfl ?_))⟩
          | true =>
            (repeat (first | with_reducible refine W.seq ?_ | with_reducible refine Ops.nil ?_ | with_reducible refine W.region ?_ | refine z_p (kk := ?_) | refine z_a (kk := ?_) | refine z_y (kk := ?_) | refine z_n (kk := ?_) | refine z_u (kk := ?_) | with_reducible refine W.skip ?_ | with_reducible refine W.endb ?_ | with_reducible refine W.block ?_ | refine W.exit rfl ?_ | refine z_l (kk := ?_) | refine z_f (kk := ?_) | refine z_M (kk := ?_) | refine z_m (kk := ?_) | refine z_e (kk := ?_) | refine z_E (kk := ?_) | refine z_d (kk := ?_) | refine z_I (kk := fun _ => ?_) | refine z_J (kk := fun _ => ?_) | refine z_K (kk := fun _ => ?_) | refine z_L (kk := fun _ => ?_) | refine z_T (kk := ?_) | refine z_F (kk := ?_) | refine z_k (kk := fun _ _ _ _ _ => ?_) | refine z_w (kk := fun _ _ => ?_) | refine z_s (kk := fun _ _ _ _ => ?_) | refine z_D (kk := ?_) | refine z_g (kk := ?_) | refine z_h (kk := ?_)))
            refine W.condF rfl (by first | rfl | assumption | (simp only [bnf] <;> omega) | (simp only [*, bnf]; done) | fail) ?_
            (repeat (first | with_reducible refine W.seq ?_ | with_reducible refine Ops.nil ?_ | with_reducible refine W.region ?_ | refine z_p (kk := ?_) | refine z_a (kk := ?_) | refine z_y (kk := ?_) | refine z_n (kk := ?_) | refine z_u (kk := ?_) | with_reducible refine W.skip ?_ | with_reducible refine W.endb ?_ | with_reducible refine W.block ?_ | refine W.exit rfl ?_ | refine z_l (kk := ?_) | refine z_f (kk := ?_) | refine z_M (kk := ?_) | refine z_m (kk := ?_) | refine z_e (kk := ?_) | refine z_E (kk := ?_) | refine z_d (kk := ?_) | refine z_I (kk := fun _ => ?_) | refine z_J (kk := fun _ => ?_) | refine z_K (kk := fun _ => ?_) | refine z_L (kk := fun _ => ?_) | refine z_T (kk := ?_) | refine z_F (kk := ?_) | refine z_k (kk := fun _ _ _ _ _ => ?_) | refine z_w (kk := fun _ _ => ?_) | refine z_s (kk := fun _ _ _ _ => ?_) | refine z_D (kk := ?_) | refine z_g (kk := ?_) | refine z_h (kk := ?_)))
            refine Ops.cut (fun ρ w' => ρ = [(3, .pointer (some ⟨b2, 0, none⟩)), (6, .pointer (some ⟨b6, 0, none⟩)), (10, .pointer (some ⟨b10, 0, none⟩)), (42, .slice At l.length ct), (43, .int .i64 l.length), (44, .int .i64 i), (11, .int .i64 i), (12, .pointer (some ⟨b12, 0, none⟩)), (64, .bool (evB dep i && !leafB l i))] ∧ w' = w12) ?_ ?_
            · refine Ops.callS rfl rfl rfl rfl rfl (atMax_c hG12 i (by omega) (by omega)) ?_
              cases hev : evB dep i with
              | false =>
                (repeat (first | with_reducible refine W.seq ?_ | with_reducible refine Ops.nil ?_ | with_reducible refine W.region ?_ | refine z_p (kk := ?_) | refine z_a (kk := ?_) | refine z_y (kk := ?_) | refine z_n (kk := ?_) | refine z_u (kk := ?_) | with_reducible refine W.skip ?_ | with_reducible refine W.endb ?_ | with_reducible refine W.block ?_ | refine W.exit rfl ?_ | refine z_l (kk := ?_) | refine z_f (kk := ?_) | refine z_M (kk := ?_) | refine z_m (kk := ?_) | refine z_e (kk := ?_) | refine z_E (kk := ?_) | refine z_d (kk := ?_) | refine z_I (kk := fun _ => ?_) | refine z_J (kk := fun _ => ?_) | refine z_K (kk := fun _ => ?_) | refine z_L (kk := fun _ => ?_) | refine z_T (kk := ?_) | refine z_F (kk := ?_) | refine z_k (kk := fun _ _ _ _ _ => ?_) | refine z_w (kk := fun _ _ => ?_) | refine z_s (kk := fun _ _ _ _ => ?_) | refine z_D (kk := ?_) | refine z_g (kk := ?_) | refine z_h (kk := ?_)))
                exact W.endl ⟨_, ⟨rfl, rfl⟩, (by repeat (first | exact trivial | refine And.intro rfl ?_))⟩
              | true =>
                (repeat (first | with_reducible refine W.seq ?_ | with_reducible refine Ops.nil ?_ | with_reducible refine W.region ?_ | refine z_p (kk := ?_) | refine z_a (kk := ?_) | refine z_y (kk := ?_) | refine z_n (kk := ?_) | refine z_u (kk := ?_) | with_reducible refine W.skip ?_ | with_reducible refine W.endb ?_ | with_reducible refine W.block ?_ | refine W.exit rfl ?_ | refine z_l (kk := ?_) | refine z_f (kk := ?_) | refine z_M (kk := ?_) | refine z_m (kk := ?_) | refine z_e (kk := ?_) | refine z_E (kk := ?_) | refine z_d (kk := ?_) | refine z_I (kk := fun _ => ?_) | refine z_J (kk := fun _ => ?_) | refine z_K (kk := fun _ => ?_) | refine z_L (kk := fun _ => ?_) | refine z_T (kk := ?_) | refine z_F (kk := ?_) | refine z_k (kk := fun _ _ _ _ _ => ?_) | refine z_w (kk := fun _ _ => ?_) | refine z_s (kk := fun _ _ _ _ => ?_) | refine z_D (kk := ?_) | refine z_g (kk := ?_) | refine z_h (kk := ?_)))
                refine Ops.callS rfl rfl rfl rfl rfl (isLeaf_c hG12 i (by omega) (by omega)) ?_
                cases hlf : leafB l i <;>
                · (repeat (first | with_reducible refine W.seq ?_ | with_reducible refine Ops.nil ?_ | with_reducible refine W.region ?_ | refine z_p (kk := ?_) | refine z_a (kk := ?_) | refine z_y (kk := ?_) | refine z_n (kk := ?_) | refine z_u (kk := ?_) | with_reducible refine W.skip ?_ | with_reducible refine W.endb ?_ | with_reducible refine W.block ?_ | refine W.exit rfl ?_ | refine z_l (kk := ?_) | refine z_f (kk := ?_) | refine z_M (kk := ?_) | refine z_m (kk := ?_) | refine z_e (kk := ?_) | refine z_E (kk := ?_) | refine z_d (kk := ?_) | refine z_I (kk := fun _ => ?_) | refine z_J (kk := fun _ => ?_) | refine z_K (kk := fun _ => ?_) | refine z_L (kk := fun _ => ?_) | refine z_T (kk := ?_) | refine z_F (kk := ?_) | refine z_k (kk := fun _ _ _ _ _ => ?_) | refine z_w (kk := fun _ _ => ?_) | refine z_s (kk := fun _ _ _ _ => ?_) | refine z_D (kk := ?_) | refine z_g (kk := ?_) | refine z_h (kk := ?_)))
                  exact W.endl ⟨_, ⟨rfl, rfl⟩, (by repeat (first | exact trivial | refine And.intro rfl ?_))⟩
            rintro ρ w13 ⟨rfl, rfl⟩
            cases hgo : (evB dep i && !leafB l i) with
            | true =>
              simp only [Bool.and_eq_true, Bool.not_eq_true'] at hgo
              have hmem : rd out i ∈ kid l i := by
                have := hok i hil
                unfold okN at this
                rw [← hsame, hfi, hgo.1, hgo.2, if_pos (by rfl)] at this
                exact of_decide_eq_true this
              have hP' := hP2.max hTF hil hfi hgo.2 hgo.1 hmem
              have hrx : rd out i = out.getD i 0 := rfl
              rw [hrx] at hP'
              refine W.condT rfl rfl ?_
              (repeat (first | with_reducible refine W.seq ?_ | with_reducible refine Ops.nil ?_ | with_reducible refine W.region ?_ | refine z_p (kk := ?_) | refine z_a (kk := ?_) | refine z_y (kk := ?_) | refine z_n (kk := ?_) | refine z_u (kk := ?_) | with_reducible refine W.skip ?_ | with_reducible refine W.endb ?_ | with_reducible refine W.block ?_ | refine W.exit rfl ?_ | refine z_l (kk := ?_) | refine z_f (kk := ?_) | refine z_M (kk := ?_) | refine z_m (kk := ?_) | refine z_e (kk := ?_) | refine z_E (kk := ?_) | refine z_d (kk := ?_) | refine z_I (kk := fun _ => ?_) | refine z_J (kk := fun _ => ?_) | refine z_K (kk := fun _ => ?_) | refine z_L (kk := fun _ => ?_) | refine z_T (kk := ?_) | refine z_F (kk := ?_) | refine z_k (kk := fun _ _ _ _ _ => ?_) | refine z_w (kk := fun _ _ => ?_) | refine z_s (kk := fun _ _ _ _ => ?_) | refine z_D (kk := ?_) | refine z_g (kk := ?_) | refine z_h (kk := ?_)))
              refine W.ordA 5 [(0, 2), (1, 2), (2, 1), (3, 1), (4, 2), (5, 0)] rfl (by kernel_rfl) rfl (by kernel_rfl) (fun _ _ _ h => h) ?_
              (repeat (first | refine x_p (kk := ?_) | refine x_n (kk := ?_) | refine x_a (kk := ?_) | refine x_l (kk := ?_) | refine x_M (kk := ?_) | refine x_m (kk := ?_) | refine x_e (kk := ?_) | refine x_E (kk := ?_) | refine x_T (kk := ?_) | refine x_F (kk := ?_) | refine x_I (kk := fun _ => ?_) | refine x_J (kk := fun _ => ?_) | refine x_K (kk := fun _ => ?_) | refine x_L (kk := fun _ => ?_) | refine x_k (kk := fun _ _ _ _ _ => ?_) | refine x_w (kk := fun _ _ => ?_) | refine x_s (kk := fun _ _ _ _ => ?_) | refine x_D (kk := ?_) | refine x_t (kk := ?_) | refine x_f (kk := ?_)))
              refine OrdA.eff rfl (fun w' hw' => Ops.put rfl rfl rfl rfl rfl rfl rfl rfl (hM12.kp (Kp.of_below (S := fun _ => False) hw') (fun e => e)) (fun w14 hM14 k14 _ => Ops.nil (W.endl (VW.Ord.nil ?_))))
              have hb14 : Below w5.heap.size w5 w14 := Below.put (Below.via hb12 hw') k14 (fun j hj => by omega)
              have hB14 := (hB1012.kp (Kp.of_below (S := fun _ => False) hw') (fun e => e)).kp k14 (fun e => hne10 e.symm)
              (repeat (first | with_reducible refine W.seq ?_ | with_reducible refine Ops.nil ?_ | with_reducible refine W.region ?_ | refine z_p (kk := ?_) | refine z_a (kk := ?_) | refine z_y (kk := ?_) | refine z_n (kk := ?_) | refine z_u (kk := ?_) | with_reducible refine W.skip ?_ | with_reducible refine W.endb ?_ | with_reducible refine W.block ?_ | refine W.exit rfl ?_ | refine z_l (kk := ?_) | refine z_f (kk := ?_) | refine z_M (kk := ?_) | refine z_m (kk := ?_) | refine z_e (kk := ?_) | refine z_E (kk := ?_) | refine z_d (kk := ?_) | refine z_I (kk := fun _ => ?_) | refine z_J (kk := fun _ => ?_) | refine z_K (kk := fun _ => ?_) | refine z_L (kk := fun _ => ?_) | refine z_T (kk := ?_) | refine z_F (kk := ?_) | refine z_k (kk := fun _ _ _ _ _ => ?_) | refine z_w (kk := fun _ _ => ?_) | refine z_s (kk := fun _ _ _ _ => ?_) | refine z_D (kk := ?_) | refine z_g (kk := ?_) | refine z_h (kk := ?_)))
              exact W.endl ⟨_, _, ⟨⟨i + 1, _, _, rfl, by omega, rfl, hb14, hB14, hM14, hP'⟩, by omega⟩, (by repeat (first | exact trivial | refine And.intro rfl ?_))⟩
            | false =>
              have hkl := hTF.klen i hil
              refine W.condF rfl rfl ?_
              (repeat (first | with_reducible refine W.seq ?_ | with_reducible refine Ops.nil ?_ | with_reducible refine W.region ?_ | refine z_p (kk := ?_) | refine z_a (kk := ?_) | refine z_y (kk := ?_) | refine z_n (kk := ?_) | refine z_u (kk := ?_) | with_reducible refine W.skip ?_ | with_reducible refine W.endb ?_ | with_reducible refine W.block ?_ | refine W.exit rfl ?_ | refine z_l (kk := ?_) | refine z_f (kk := ?_) | refine z_M (kk := ?_) | refine z_m (kk := ?_) | refine z_e (kk := ?_) | refine z_E (kk := ?_) | refine z_d (kk := ?_) | refine z_I (kk := fun _ => ?_) | refine z_J (kk := fun _ => ?_) | refine z_K (kk := fun _ => ?_) | refine z_L (kk := fun _ => ?_) | refine z_T (kk := ?_) | refine z_F (kk := ?_) | refine z_k (kk := fun _ _ _ _ _ => ?_) | refine z_w (kk := fun _ _ => ?_) | refine z_s (kk := fun _ _ _ _ => ?_) | refine z_D (kk := ?_) | refine z_g (kk := ?_) | refine z_h (kk := ?_)))
              refine W.loop (fun m ρ w8 => ∃ (j : Nat) (h : Int → Bool), m = (kid l i).length - j ∧ j ≤ (kid l i).length ∧ ρ = [(3, .pointer (some ⟨b2, 0, none⟩)), (6, .pointer (some ⟨b6, 0, none⟩)), (10, .pointer (some ⟨b10, 0, none⟩)), (42, .slice At l.length ct), (43, .int .i64 l.length), (44, .int .i64 i), (50, .slice Ak (kid l i).length ck), (51, .int .i64 (kid l i).length), (52, .int .i64 j)] ∧ Below w5.heap.size w5 w8 ∧ Blk w8 b10 #[.map (some mb)] 79 ∧ MapB w8 mb h ∧ (∀ k, h k = (f2 k || decide (∃ b : Nat, b < j ∧ k_ l i b = k))))
                ⟨_, _, ⟨0, f2, rfl, Nat.zero_le _, rfl, hb12, hB1012, hM12, fun k => by rw [decide_eq_false (fun ⟨b, hb, _⟩ => by omega), Bool.or_false]⟩, (by repeat (first | exact trivial | refine And.intro rfl ?_))⟩ ?_
              clear hM12 hB1012 hb12
              rintro m ρ w8 ⟨j, h, rfl, hj, rfl, hb12, hB1012, hM, hh⟩
              (repeat (first | with_reducible refine W.seq ?_ | with_reducible refine Ops.nil ?_ | with_reducible refine W.region ?_ | refine z_p (kk := ?_) | refine z_a (kk := ?_) | refine z_y (kk := ?_) | refine z_n (kk := ?_) | refine z_u (kk := ?_) | with_reducible refine W.skip ?_ | with_reducible refine W.endb ?_ | with_reducible refine W.block ?_ | refine W.exit rfl ?_ | refine z_l (kk := ?_) | refine z_f (kk := ?_) | refine z_M (kk := ?_) | refine z_m (kk := ?_) | refine z_e (kk := ?_) | refine z_E (kk := ?_) | refine z_d (kk := ?_) | refine z_I (kk := fun _ => ?_) | refine z_J (kk := fun _ => ?_) | refine z_K (kk := fun _ => ?_) | refine z_L (kk := fun _ => ?_) | refine z_T (kk := ?_) | refine z_F (kk := ?_) | refine z_k (kk := fun _ _ _ _ _ => ?_) | refine z_w (kk := fun _ _ => ?_) | refine z_s (kk := fun _ _ _ _ => ?_) | refine z_D (kk := ?_) | refine z_g (kk := ?_) | refine z_h (kk := ?_)))
              (first | refine W.condD rfl (fun hc => ?_) (fun hc => ?_) | refine W.condE rfl (fun hc => ?_) (fun hc => ?_) | refine W.condN rfl (fun hc => ?_) (fun hc => ?_) | refine W.cond rfl (fun hc => ?_) (fun hc => ?_))
              · have hjl : j < (kid l i).length := by omega
                (repeat (first | with_reducible refine W.seq ?_ | with_reducible refine Ops.nil ?_ | with_reducible refine W.region ?_ | refine z_p (kk := ?_) | refine z_a (kk := ?_) | refine z_y (kk := ?_) | refine z_n (kk := ?_) | refine z_u (kk := ?_) | with_reducible refine W.skip ?_ | with_reducible refine W.endb ?_ | with_reducible refine W.block ?_ | refine W.exit rfl ?_ | refine z_l (kk := ?_) | refine z_f (kk := ?_) | refine z_M (kk := ?_) | refine z_m (kk := ?_) | refine z_e (kk := ?_) | refine z_E (kk := ?_) | refine z_d (kk := ?_) | refine z_I (kk := fun _ => ?_) | refine z_J (kk := fun _ => ?_) | refine z_K (kk := fun _ => ?_) | refine z_L (kk := fun _ => ?_) | refine z_T (kk := ?_) | refine z_F (kk := ?_) | refine z_k (kk := fun _ _ _ _ _ => ?_) | refine z_w (kk := fun _ _ => ?_) | refine z_s (kk := fun _ _ _ _ => ?_) | refine z_D (kk := ?_) | refine z_g (kk := ?_) | refine z_h (kk := ?_)))
                refine Ops.put rfl rfl rfl rfl rfl rfl rfl rfl hM (fun w9 hM9 k9 _ => ?_)
                have hb19 : Below w5.heap.size w5 w9 := Below.put hb12 k9 (fun j hj => by omega)
                have hB19 := hB1012.kp k9 (fun e => hne10 e.symm)
                have hh9 : ∀ k, (h k || k == (kid l i).getD j 0) = (f2 k || decide (∃ b : Nat, b < j + 1 ∧ k_ l i b = k)) := fun k => by
                  rw [hh k, Bool.or_assoc]
                  congr 1
                  rw [show (k == (kid l i).getD j 0) = decide (k = (kid l i).getD j 0) from rfl, ← Bool.decide_or, decide_eq_decide]
                  constructor
                  · rintro (⟨b, hb, e⟩ | e)
                    · exact ⟨b, by omega, e⟩
                    · exact ⟨j, by omega, e.symm⟩
                  · rintro ⟨b, hb, e⟩
                    by_cases hbj : b = j
                    · subst hbj; exact .inr e.symm
                    · exact .inl ⟨b, by omega, e⟩
                (repeat (first | with_reducible refine W.seq ?_ | with_reducible refine Ops.nil ?_ | with_reducible refine W.region ?_ | refine z_p (kk := ?_) | refine z_a (kk := ?_) | refine z_y (kk := ?_) | refine z_n (kk := ?_) | refine z_u (kk := ?_) | with_reducible refine W.skip ?_ | with_reducible refine W.endb ?_ | with_reducible refine W.block ?_ | refine W.exit rfl ?_ | refine z_l (kk := ?_) | refine z_f (kk := ?_) | refine z_M (kk := ?_) | refine z_m (kk := ?_) | refine z_e (kk := ?_) | refine z_E (kk := ?_) | refine z_d (kk := ?_) | refine z_I (kk := fun _ => ?_) | refine z_J (kk := fun _ => ?_) | refine z_K (kk := fun _ => ?_) | refine z_L (kk := fun _ => ?_) | refine z_T (kk := ?_) | refine z_F (kk := ?_) | refine z_k (kk := fun _ _ _ _ _ => ?_) | refine z_w (kk := fun _ _ => ?_) | refine z_s (kk := fun _ _ _ _ => ?_) | refine z_D (kk := ?_) | refine z_g (kk := ?_) | refine z_h (kk := ?_)))
                exact W.endl ⟨_, _, ⟨⟨j + 1, _, rfl, by omega, rfl, hb19, hB19, hM9, hh9⟩, by omega⟩, (by repeat (first | exact trivial | refine And.intro rfl ?_))⟩
              · have hjl : j = (kid l i).length := by omega
                subst hjl
                have hP' : PI l dep (rd out) (i + 1) h gh := by
                  cases hlf : leafB l i with
                  | true =>
                    have hk0 : kid l i = [] := by unfold leafB at hlf; simpa using hlf
                    have : h = f2 := funext fun k => by rw [hh k, decide_eq_false (fun ⟨b, hb, _⟩ => by rw [hk0] at hb; simp at hb), Bool.or_false]
                    subst this
                    exact hP2.skip hTF hil (.inr hlf)
                  | false =>
                    rw [hlf] at hgo
                    exact hP2.min hTF hil hfi (by simpa using hgo) hh
                (repeat (first | with_reducible refine W.seq ?_ | with_reducible refine Ops.nil ?_ | with_reducible refine W.region ?_ | refine z_p (kk := ?_) | refine z_a (kk := ?_) | refine z_y (kk := ?_) | refine z_n (kk := ?_) | refine z_u (kk := ?_) | with_reducible refine W.skip ?_ | with_reducible refine W.endb ?_ | with_reducible refine W.block ?_ | refine W.exit rfl ?_ | refine z_l (kk := ?_) | refine z_f (kk := ?_) | refine z_M (kk := ?_) | refine z_m (kk := ?_) | refine z_e (kk := ?_) | refine z_E (kk := ?_) | refine z_d (kk := ?_) | refine z_I (kk := fun _ => ?_) | refine z_J (kk := fun _ => ?_) | refine z_K (kk := fun _ => ?_) | refine z_L (kk := fun _ => ?_) | refine z_T (kk := ?_) | refine z_F (kk := ?_) | refine z_k (kk := fun _ _ _ _ _ => ?_) | refine z_w (kk := fun _ _ => ?_) | refine z_s (kk := fun _ _ _ _ => ?_) | refine z_D (kk := ?_) | refine z_g (kk := ?_) | refine z_h (kk := ?_)))
                exact W.endl ⟨_, _, ⟨⟨i + 1, h, gh, rfl, by omega, rfl, hb12, hB1012, hM, hP'⟩, by omega⟩, (by repeat (first | exact trivial | refine And.intro rfl ?_))⟩
        · have hil : i = l.length := by omega
          subst hil
          (repeat (first | with_reducible refine W.seq ?_ | with_reducible refine Ops.nil ?_ | with_reducible refine W.region ?_ | refine z_p (kk := ?_) | refine z_a (kk := ?_) | refine z_y (kk := ?_) | refine z_n (kk := ?_) | refine z_u (kk := ?_) | with_reducible refine W.skip ?_ | with_reducible refine W.endb ?_ | with_reducible refine W.block ?_ | refine W.exit rfl ?_ | refine z_l (kk := ?_) | refine z_f (kk := ?_) | refine z_M (kk := ?_) | refine z_m (kk := ?_) | refine z_e (kk := ?_) | refine z_E (kk := ?_) | refine z_d (kk := ?_) | refine z_I (kk := fun _ => ?_) | refine z_J (kk := fun _ => ?_) | refine z_K (kk := fun _ => ?_) | refine z_L (kk := fun _ => ?_) | refine z_T (kk := ?_) | refine z_F (kk := ?_) | refine z_k (kk := fun _ _ _ _ _ => ?_) | refine z_w (kk := fun _ _ => ?_) | refine z_s (kk := fun _ _ _ _ => ?_) | refine z_D (kk := ?_) | refine z_g (kk := ?_) | refine z_h (kk := ?_)))
          have hf2 : ∀ c : Nat, c < l.length → f2 c = bsF.getD c false := fun c hc => PI.same hTF hP2 hbsF c (by omega) hc
          refine Ops.alloc rfl rfl rfl rfl (fun w11 b15 hM15 => ?_)
          refine Ops.st rfl rfl rfl rfl rfl rfl rfl hM15.at_ (by decide) (fun w12 hu15 => ?_)
          have k12 := hM15.kp.trans hu15.kp
          have hr15 := hM15.r_eq
          have hB15' : Blk w12 b15 #[.int .i64 far] 3 := hu15.blk
          have hb12 : Below w5.heap.size w5 w12 := Below.put hb10 k12 (fun j hj => by rcases hj with hj | hj; exact hj.elim; have := hb10.size; omega)
          have hM12 := hM.kp k12 (fun hj => by rcases hj with hj | hj; exact hj.elim; have := hM.lt; omega)
          have hB1012 := hB10.kp k12 (fun hj => by rcases hj with hj | hj; exact hj.elim; have := hB10.lt; omega)
          have hn15m : mb ≠ b15 := by have := hM.lt; omega
          have hn15b : b10 ≠ b15 := by have := hB10.lt; omega
          have hb155 : w5.heap.size ≤ b15 := by have := hb10.size; omega
          clear hM hB10 hM15 hu15
          refine Ops.nil ?_
          refine W.toJ (JW.seq (by exact rfl) ?_)
          (repeat (first | with_reducible refine W.seq ?_ | with_reducible refine Ops.nil ?_ | with_reducible refine W.region ?_ | refine z_p (kk := ?_) | refine z_a (kk := ?_) | refine z_y (kk := ?_) | refine z_n (kk := ?_) | refine z_u (kk := ?_) | with_reducible refine W.skip ?_ | with_reducible refine W.endb ?_ | with_reducible refine W.block ?_ | refine W.exit rfl ?_ | refine z_l (kk := ?_) | refine z_f (kk := ?_) | refine z_M (kk := ?_) | refine z_m (kk := ?_) | refine z_e (kk := ?_) | refine z_E (kk := ?_) | refine z_d (kk := ?_) | refine z_I (kk := fun _ => ?_) | refine z_J (kk := fun _ => ?_) | refine z_K (kk := fun _ => ?_) | refine z_L (kk := fun _ => ?_) | refine z_T (kk := ?_) | refine z_F (kk := ?_) | refine z_k (kk := fun _ _ _ _ _ => ?_) | refine z_w (kk := fun _ _ => ?_) | refine z_s (kk := fun _ _ _ _ => ?_) | refine z_D (kk := ?_) | refine z_g (kk := ?_) | refine z_h (kk := ?_)))
          refine Ops.call rfl rfl rfl rfl rfl (leavesF_c w12 (some ⟨g, 0, none⟩)) (fun r w13 hR => ?_)
          obtain ⟨b97, rfl, hB97, hb1213, hge97⟩ := hR
          have hb13 := Below.via hb12 hb1213
          have hM13 := hM12.kp (Kp.of_below (S := fun _ => False) hb1213) (fun e => e)
          have hB1013 := hB1012.kp (Kp.of_below (S := fun _ => False) hb1213) (fun e => e)
          have hB1513 := hB15'.kp (Kp.of_below (S := fun _ => False) hb1213) (fun e => e)
          have hn97 : b97 ≠ b15 := by have := hB15'.lt; omega
          refine Ops.nil (W.endl ?_)
          refine JW.sub (ρ' := [(6, .pointer (some ⟨b6, 0, none⟩)), (10, .pointer (some ⟨b10, 0, none⟩)), (15, .pointer (some ⟨b15, 0, none⟩)), (81, .func (.func 97) #[] #[.pointer (some ⟨b97, 0, none⟩)])]) (by repeat (first | exact trivial | refine And.intro rfl ?_)) ?_
          have hmlt := hM13.lt
          have hblt := hB1013.lt
          have h97lt := hB97.lt
          have h15lt := hB1513.lt
          have hsz13 := hb13.size
          have hw5b : ∀ W, Kp (fun k => k = b15 ∨ w13.heap.size ≤ k) w13 W → Below w5.heap.size w5 W := fun W hk => Below.put hb13 hk (fun k e => by omega)
          refine JW.leaves (g := g) (b97 := b97) (I := fun i W => Kp (fun k => k = b15 ∨ w13.heap.size ≤ k) w13 W ∧ Blk W b15 #[.int .i64 (lst l (fun i => bsF.getD i false) far i)] 3) hTF rfl (by exact rfl) (by exact rfl)
            (fun i W h => ⟨hB97.kp h.1 (fun e => by omega), hG5.below (hw5b W h.1)⟩)
            (fun i W W' h hk => ⟨(h.1.trans hk).mono (fun k _ e => by omega), h.2.kp hk (fun e => by omega)⟩)
            (fun i W h hi hl => ⟨h.1, by simp only [lst, hl, Bool.and_false]; exact h.2⟩)
            ⟨(Kp.of_below (Below.refl _ _)), hB1513⟩ (fun L i wr h hi hl hL => ?_) (fun D W3 h hD hDge => ?_)
          · refine Wi.regionN rfl rfl ?_
            (repeat (first | with_reducible refine W.seq ?_ | with_reducible refine Ops.nil ?_ | with_reducible refine W.region ?_ | refine z_p (kk := ?_) | refine z_a (kk := ?_) | refine z_y (kk := ?_) | refine z_n (kk := ?_) | refine z_u (kk := ?_) | with_reducible refine W.skip ?_ | with_reducible refine W.endb ?_ | with_reducible refine W.block ?_ | refine W.exit rfl ?_ | refine z_l (kk := ?_) | refine z_f (kk := ?_) | refine z_M (kk := ?_) | refine z_m (kk := ?_) | refine z_e (kk := ?_) | refine z_E (kk := ?_) | refine z_d (kk := ?_) | refine z_I (kk := fun _ => ?_) | refine z_J (kk := fun _ => ?_) | refine z_K (kk := fun _ => ?_) | refine z_L (kk := fun _ => ?_) | refine z_T (kk := ?_) | refine z_F (kk := ?_) | refine z_k (kk := fun _ _ _ _ _ => ?_) | refine z_w (kk := fun _ _ => ?_) | refine z_s (kk := fun _ _ _ _ => ?_) | refine z_D (kk := ?_) | refine z_g (kk := ?_) | refine z_h (kk := ?_)))
            refine W.endl ⟨rfl, rfl, fun wq h' => ?_⟩
            obtain ⟨hk', hB'⟩ := h'
            have hM' := hM13.kp hk' (fun e => by omega)
            have hB10' := hB1013.kp hk' (fun e => by omega)
            have hb5' := hw5b wq hk'
            have hG' := hG5.below hb5'
            refine Wi.block (Wi.seq (Wi.regionN rfl rfl ?_))
            (repeat (first | with_reducible refine W.seq ?_ | with_reducible refine Ops.nil ?_ | with_reducible refine W.region ?_ | refine z_p (kk := ?_) | refine z_a (kk := ?_) | refine z_y (kk := ?_) | refine z_n (kk := ?_) | refine z_u (kk := ?_) | with_reducible refine W.skip ?_ | with_reducible refine W.endb ?_ | with_reducible refine W.block ?_ | refine W.exit rfl ?_ | refine z_l (kk := ?_) | refine z_f (kk := ?_) | refine z_M (kk := ?_) | refine z_m (kk := ?_) | refine z_e (kk := ?_) | refine z_E (kk := ?_) | refine z_d (kk := ?_) | refine z_I (kk := fun _ => ?_) | refine z_J (kk := fun _ => ?_) | refine z_K (kk := fun _ => ?_) | refine z_L (kk := fun _ => ?_) | refine z_T (kk := ?_) | refine z_F (kk := ?_) | refine z_k (kk := fun _ _ _ _ _ => ?_) | refine z_w (kk := fun _ _ => ?_) | refine z_s (kk := fun _ _ _ _ => ?_) | refine z_D (kk := ?_) | refine z_g (kk := ?_) | refine z_h (kk := ?_)))
            refine Ops.look rfl rfl rfl rfl rfl rfl rfl rfl hM' ?_
            rw [hf2 i hi]
            refine Ops.nil (W.endl ?_)
            refine Wi.cond rfl (fun hc => ?_) (fun hc => Wi.skip ⟨rfl, ⟨hk', ?_⟩, Kp.of_below (Below.refl _ _)⟩)
            · have hls : lst l (fun i => bsF.getD i false) far (i + 1) = min (lst l (fun i => bsF.getD i false) far i) (wor l i) := by simp only [lst, hl, hc]; rfl
              rw [hls]
              refine Wi.ordA 5 [(0, 2), (1, 2), (2, 1), (3, 2), (4, 1), (5, 0)] rfl (by kernel_rfl) (by kernel_rfl) (by kernel_rfl) rfl (by kernel_rfl) ?_
              (repeat (first | refine x_p (kk := ?_) | refine x_n (kk := ?_) | refine x_a (kk := ?_) | refine x_l (kk := ?_) | refine x_M (kk := ?_) | refine x_m (kk := ?_) | refine x_e (kk := ?_) | refine x_E (kk := ?_) | refine x_T (kk := ?_) | refine x_F (kk := ?_) | refine x_I (kk := fun _ => ?_) | refine x_J (kk := fun _ => ?_) | refine x_K (kk := fun _ => ?_) | refine x_L (kk := fun _ => ?_) | refine x_k (kk := fun _ _ _ _ _ => ?_) | refine x_w (kk := fun _ _ => ?_) | refine x_s (kk := fun _ _ _ _ => ?_) | refine x_D (kk := ?_) | refine x_t (kk := ?_) | refine x_f (kk := ?_)))
              refine OrdA.call rfl rfl rfl rfl rfl rfl rfl (fun w' hw' => (worth_c (hG'.below hw') i (by omega) (by omega)).mono fun e w'' ⟨v, he, hv⟩ => ⟨v, he, hv.1, by rw [hv.2]; exact hw'⟩) ?_
              (repeat (first | refine x_p (kk := ?_) | refine x_n (kk := ?_) | refine x_a (kk := ?_) | refine x_l (kk := ?_) | refine x_M (kk := ?_) | refine x_m (kk := ?_) | refine x_e (kk := ?_) | refine x_E (kk := ?_) | refine x_T (kk := ?_) | refine x_F (kk := ?_) | refine x_I (kk := fun _ => ?_) | refine x_J (kk := fun _ => ?_) | refine x_K (kk := fun _ => ?_) | refine x_L (kk := fun _ => ?_) | refine x_k (kk := fun _ _ _ _ _ => ?_) | refine x_w (kk := fun _ _ => ?_) | refine x_s (kk := fun _ _ _ _ => ?_) | refine x_t (kk := ?_) | refine x_f (kk := ?_)))
              refine OrdA.eff rfl (fun w' hw' => Ops.st rfl rfl rfl rfl rfl rfl rfl (hB'.kp (Kp.of_below (S := fun _ => False) hw') (fun e => e)) (by simp) (fun w14 hu14 => Ops.nil (W.endl (VW.Ord.nil (W.endl ?_)))))
              have hkk := (Kp.of_below (S := fun k => k = b15) hw').trans hu14.kp
              exact ⟨rfl, ⟨(hk'.trans hkk).mono (fun k _ e => by omega), by simpa using hu14.blk⟩, hkk.mono (fun k _ e => by omega)⟩
            · simp only [lst, hc, Bool.false_and]; exact hB'
          · obtain ⟨hk3, hB3⟩ := h
            have hb53 := hw5b W3 hk3
            have hb03 := Below.via hb05 hb53
            (repeat (first | with_reducible refine W.seq ?_ | with_reducible refine Ops.nil ?_ | with_reducible refine W.region ?_ | refine z_p (kk := ?_) | refine z_a (kk := ?_) | refine z_y (kk := ?_) | refine z_n (kk := ?_) | refine z_u (kk := ?_) | with_reducible refine W.skip ?_ | with_reducible refine W.endb ?_ | with_reducible refine W.block ?_ | refine W.exit rfl ?_ | refine z_l (kk := ?_) | refine z_f (kk := ?_) | refine z_M (kk := ?_) | refine z_m (kk := ?_) | refine z_e (kk := ?_) | refine z_E (kk := ?_) | refine z_d (kk := ?_) | refine z_I (kk := fun _ => ?_) | refine z_J (kk := fun _ => ?_) | refine z_K (kk := fun _ => ?_) | refine z_L (kk := fun _ => ?_) | refine z_T (kk := ?_) | refine z_F (kk := ?_) | refine z_k (kk := fun _ _ _ _ _ => ?_) | refine z_w (kk := fun _ _ => ?_) | refine z_s (kk := fun _ _ _ _ => ?_) | refine z_D (kk := ?_) | refine z_g (kk := ?_) | refine z_h (kk := ?_)))
            refine W.ret ⟨rfl, hD, _, fun a hr => run_results hr rfl, ?_⟩
            have hbf := Below.put hb03 (kp_putObj (r := D) (.deferred none)) (fun k hk => by have := hb05.size; omega)
            exact ⟨hbf, Or.inl ⟨hxl, hok, rfl⟩⟩
      · have hno : ¬ OkP l dep xs bsF := fun hok => by
          obtain ⟨h1, h2, h3⟩ := plan_of_ok hTF hbsF hP hok hxl
          refine hgo ⟨?_, h1⟩
          rw [← hq]
          exact asked_all.2 fun i hi a b c => decide_eq_true (h3 i hi a b c)
        have : (q && decide (out = xs)) = false := by
          cases q with
          | false => rfl
          | true => rw [Bool.true_and]; exact decide_eq_false fun e => hgo ⟨rfl, e⟩
        rw [this]
        refine W.condT rfl rfl ?_
        (repeat (first | with_reducible refine W.seq ?_ | with_reducible refine Ops.nil ?_ | with_reducible refine W.region ?_ | refine z_p (kk := ?_) | refine z_a (kk := ?_) | refine z_y (kk := ?_) | refine z_n (kk := ?_) | refine z_u (kk := ?_) | with_reducible refine W.skip ?_ | with_reducible refine W.endb ?_ | with_reducible refine W.block ?_ | refine W.exit rfl ?_ | refine z_l (kk := ?_) | refine z_f (kk := ?_) | refine z_M (kk := ?_) | refine z_m (kk := ?_) | refine z_e (kk := ?_) | refine z_E (kk := ?_) | refine z_d (kk := ?_) | refine z_I (kk := fun _ => ?_) | refine z_J (kk := fun _ => ?_) | refine z_K (kk := fun _ => ?_) | refine z_L (kk := fun _ => ?_) | refine z_T (kk := ?_) | refine z_F (kk := ?_) | refine z_k (kk := fun _ _ _ _ _ => ?_) | refine z_w (kk := fun _ _ => ?_) | refine z_s (kk := fun _ _ _ _ => ?_) | refine z_D (kk := ?_) | refine z_g (kk := ?_) | refine z_h (kk := ?_)))
        exact W.fret rfl ⟨hb09, Or.inr ⟨fun h => hno h.2, rfl⟩⟩
    · refine W.condT rfl (by first | rfl | assumption | (simp only [bnf] <;> omega) | (simp only [*, bnf]; done) | fail) ?_
      (repeat (first | with_reducible refine W.seq ?_ | with_reducible refine Ops.nil ?_ | with_reducible refine W.region ?_ | refine z_p (kk := ?_) | refine z_a (kk := ?_) | refine z_y (kk := ?_) | refine z_n (kk := ?_) | refine z_u (kk := ?_) | with_reducible refine W.skip ?_ | with_reducible refine W.endb ?_ | with_reducible refine W.block ?_ | refine W.exit rfl ?_ | refine z_l (kk := ?_) | refine z_f (kk := ?_) | refine z_M (kk := ?_) | refine z_m (kk := ?_) | refine z_e (kk := ?_) | refine z_E (kk := ?_) | refine z_d (kk := ?_) | refine z_I (kk := fun _ => ?_) | refine z_J (kk := fun _ => ?_) | refine z_K (kk := fun _ => ?_) | refine z_L (kk := fun _ => ?_) | refine z_T (kk := ?_) | refine z_F (kk := ?_) | refine z_k (kk := fun _ _ _ _ _ => ?_) | refine z_w (kk := fun _ _ => ?_) | refine z_s (kk := fun _ _ _ _ => ?_) | refine z_D (kk := ?_) | refine z_g (kk := ?_) | refine z_h (kk := ?_)))
      exact W.fret rfl ⟨hb05, Or.inr ⟨fun h => hxl h.1, rfl⟩⟩
end Go.Proofs.Ytdiljpnfochndaa
namespace Go.Proofs.Ytdiljpnfochndaa
open Go Go.RowKit Go.Proofs.Ytdiljpnfochndaa.VW
open Go.Proofs.Ytdiljpnfochndaa.HP (Nd kid wor leafB rd evB gameOf gameOf_TF TF TK ValP k_ far)
attribute [local irreducible] W Ops OrdA VW.Ord OrdX Wi OpsI
set_option maxHeartbeats 4000000 in
theorem checksLaw_c {w : World} {mv lv : Value} {l : List Nd} {xs : List Int} (hm : ArgT w mv l) (hl : Arg w lv xs) :
    Calls Try.prog 11 #[mv, lv] w (Ret fun r w' => r = .bool true ∧ Below w.heap.size w w') := by
  refine calls_W (vs := [_, _]) Try.func11 rfl (by kernel_rfl) rfl ?_
  (repeat (first | with_reducible refine W.seq ?_ | with_reducible refine Ops.nil ?_ | with_reducible refine W.region ?_ | refine z_p (kk := ?_) | refine z_a (kk := ?_) | refine z_y (kk := ?_) | refine z_n (kk := ?_) | refine z_u (kk := ?_) | with_reducible refine W.skip ?_ | with_reducible refine W.endb ?_ | with_reducible refine W.block ?_ | refine W.exit rfl ?_ | refine z_l (kk := ?_) | refine z_f (kk := ?_) | refine z_M (kk := ?_) | refine z_m (kk := ?_) | refine z_e (kk := ?_) | refine z_E (kk := ?_) | refine z_d (kk := ?_) | refine z_I (kk := fun _ => ?_) | refine z_J (kk := fun _ => ?_) | refine z_K (kk := fun _ => ?_) | refine z_L (kk := fun _ => ?_) | refine z_T (kk := ?_) | refine z_F (kk := ?_) | refine z_k (kk := fun _ _ _ _ _ => ?_) | refine z_w (kk := fun _ _ => ?_) | refine z_s (kk := fun _ _ _ _ => ?_) | refine z_D (kk := ?_) | refine z_g (kk := ?_) | refine z_h (kk := ?_)))
  refine Ops.call rfl rfl rfl rfl rfl (tree_c hm) (fun tv w1 hR => ?_)
  obtain ⟨hb1, hT1⟩ := hR
  have hlen := treeM_len l
  have hkl : ∀ i : Nat, i < (treeM l).length → (kid (treeM l) i).length ≤ 1000 := fun i _ => by have := treeM_kid l i; omega
  generalize treeM l = t at *
  obtain ⟨At, ct, rfl⟩ := hT1.sl
  (repeat (first | with_reducible refine W.seq ?_ | with_reducible refine Ops.nil ?_ | with_reducible refine W.region ?_ | refine z_p (kk := ?_) | refine z_a (kk := ?_) | refine z_y (kk := ?_) | refine z_n (kk := ?_) | refine z_u (kk := ?_) | with_reducible refine W.skip ?_ | with_reducible refine W.endb ?_ | with_reducible refine W.block ?_ | refine W.exit rfl ?_ | refine z_l (kk := ?_) | refine z_f (kk := ?_) | refine z_M (kk := ?_) | refine z_m (kk := ?_) | refine z_e (kk := ?_) | refine z_E (kk := ?_) | refine z_d (kk := ?_) | refine z_I (kk := fun _ => ?_) | refine z_J (kk := fun _ => ?_) | refine z_K (kk := fun _ => ?_) | refine z_L (kk := fun _ => ?_) | refine z_T (kk := ?_) | refine z_F (kk := ?_) | refine z_k (kk := fun _ _ _ _ _ => ?_) | refine z_w (kk := fun _ _ => ?_) | refine z_s (kk := fun _ _ _ _ => ?_) | refine z_D (kk := ?_) | refine z_g (kk := ?_) | refine z_h (kk := ?_)))
  refine Ops.call rfl rfl rfl rfl rfl (list_c (hl.below hb1)) (fun sv w2 hR => ?_)
  have hb02 := Below.via hb1 hR.bel
  have hT2 := hT1.below hR.bel
  have hS2 := hR.sl (z := (0 : Int))
  have hSl : (xs.take 61).length ≤ 61 := by simp; omega
  obtain ⟨As, cs, rfl⟩ := hR.sh
  clear hR hl hm hT1
  generalize xs.take 61 = S at *
  (repeat (first | with_reducible refine W.seq ?_ | with_reducible refine Ops.nil ?_ | with_reducible refine W.region ?_ | refine z_p (kk := ?_) | refine z_a (kk := ?_) | refine z_y (kk := ?_) | refine z_n (kk := ?_) | refine z_u (kk := ?_) | with_reducible refine W.skip ?_ | with_reducible refine W.endb ?_ | with_reducible refine W.block ?_ | refine W.exit rfl ?_ | refine z_l (kk := ?_) | refine z_f (kk := ?_) | refine z_M (kk := ?_) | refine z_m (kk := ?_) | refine z_e (kk := ?_) | refine z_E (kk := ?_) | refine z_d (kk := ?_) | refine z_I (kk := fun _ => ?_) | refine z_J (kk := fun _ => ?_) | refine z_K (kk := fun _ => ?_) | refine z_L (kk := fun _ => ?_) | refine z_T (kk := ?_) | refine z_F (kk := ?_) | refine z_k (kk := fun _ _ _ _ _ => ?_) | refine z_w (kk := fun _ _ => ?_) | refine z_s (kk := fun _ _ _ _ => ?_) | refine z_D (kk := ?_) | refine z_g (kk := ?_) | refine z_h (kk := ?_)))
  cases hg : gameOf t with
  | none =>
    refine Ops.call rfl rfl rfl rfl rfl (check_c (bsF := []) hT2 (by omega) hS2 (by omega) (fun dep h => by rw [hg] at h; cases h)) (fun r w3 hR => ?_)
    obtain ⟨hb3, hR3⟩ := hR
    have hb03 := Below.via hb02 hb3
    have hT3 := hT2.below hb3
    unfold CheckR at hR3
    rw [hg] at hR3
    obtain rfl := hR3
    (repeat (first | with_reducible refine W.seq ?_ | with_reducible refine Ops.nil ?_ | with_reducible refine W.region ?_ | refine z_p (kk := ?_) | refine z_a (kk := ?_) | refine z_y (kk := ?_) | refine z_n (kk := ?_) | refine z_u (kk := ?_) | with_reducible refine W.skip ?_ | with_reducible refine W.endb ?_ | with_reducible refine W.block ?_ | refine W.exit rfl ?_ | refine z_l (kk := ?_) | refine z_f (kk := ?_) | refine z_M (kk := ?_) | refine z_m (kk := ?_) | refine z_e (kk := ?_) | refine z_E (kk := ?_) | refine z_d (kk := ?_) | refine z_I (kk := fun _ => ?_) | refine z_J (kk := fun _ => ?_) | refine z_K (kk := fun _ => ?_) | refine z_L (kk := fun _ => ?_) | refine z_T (kk := ?_) | refine z_F (kk := ?_) | refine z_k (kk := fun _ _ _ _ _ => ?_) | refine z_w (kk := fun _ _ => ?_) | refine z_s (kk := fun _ _ _ _ => ?_) | refine z_D (kk := ?_) | refine z_g (kk := ?_) | refine z_h (kk := ?_)))
    refine Ops.call rfl rfl rfl rfl rfl (refTree_c hT3 hkl) (fun r w5 hR => ?_)
    obtain ⟨rfl, hb5⟩ := hR
    have hb05 := Below.via hb03 hb5
    rw [hg]
    (repeat (first | with_reducible refine W.seq ?_ | with_reducible refine Ops.nil ?_ | with_reducible refine W.region ?_ | refine z_p (kk := ?_) | refine z_a (kk := ?_) | refine z_y (kk := ?_) | refine z_n (kk := ?_) | refine z_u (kk := ?_) | with_reducible refine W.skip ?_ | with_reducible refine W.endb ?_ | with_reducible refine W.block ?_ | refine W.exit rfl ?_ | refine z_l (kk := ?_) | refine z_f (kk := ?_) | refine z_M (kk := ?_) | refine z_m (kk := ?_) | refine z_e (kk := ?_) | refine z_E (kk := ?_) | refine z_d (kk := ?_) | refine z_I (kk := fun _ => ?_) | refine z_J (kk := fun _ => ?_) | refine z_K (kk := fun _ => ?_) | refine z_L (kk := fun _ => ?_) | refine z_T (kk := ?_) | refine z_F (kk := ?_) | refine z_k (kk := fun _ _ _ _ _ => ?_) | refine z_w (kk := fun _ _ => ?_) | refine z_s (kk := fun _ _ _ _ => ?_) | refine z_D (kk := ?_) | refine z_g (kk := ?_) | refine z_h (kk := ?_)))
    refine W.condT rfl (by first | rfl | assumption | (simp only [bnf] <;> omega) | (simp only [*, bnf]; done) | fail) ?_
    (repeat (first | with_reducible refine W.seq ?_ | with_reducible refine Ops.nil ?_ | with_reducible refine W.region ?_ | refine z_p (kk := ?_) | refine z_a (kk := ?_) | refine z_y (kk := ?_) | refine z_n (kk := ?_) | refine z_u (kk := ?_) | with_reducible refine W.skip ?_ | with_reducible refine W.endb ?_ | with_reducible refine W.block ?_ | refine W.exit rfl ?_ | refine z_l (kk := ?_) | refine z_f (kk := ?_) | refine z_M (kk := ?_) | refine z_m (kk := ?_) | refine z_e (kk := ?_) | refine z_E (kk := ?_) | refine z_d (kk := ?_) | refine z_I (kk := fun _ => ?_) | refine z_J (kk := fun _ => ?_) | refine z_K (kk := fun _ => ?_) | refine z_L (kk := fun _ => ?_) | refine z_T (kk := ?_) | refine z_F (kk := ?_) | refine z_k (kk := fun _ _ _ _ _ => ?_) | refine z_w (kk := fun _ _ => ?_) | refine z_s (kk := fun _ _ _ _ => ?_) | refine z_D (kk := ?_) | refine z_g (kk := ?_) | refine z_h (kk := ?_)))
    refine Ops.call rfl rfl rfl rfl rfl (awake_c _) (fun r w6 hR => ?_)
    obtain ⟨rfl, hb6⟩ := hR
    (repeat (first | with_reducible refine W.seq ?_ | with_reducible refine Ops.nil ?_ | with_reducible refine W.region ?_ | refine z_p (kk := ?_) | refine z_a (kk := ?_) | refine z_y (kk := ?_) | refine z_n (kk := ?_) | refine z_u (kk := ?_) | with_reducible refine W.skip ?_ | with_reducible refine W.endb ?_ | with_reducible refine W.block ?_ | refine W.exit rfl ?_ | refine z_l (kk := ?_) | refine z_f (kk := ?_) | refine z_M (kk := ?_) | refine z_m (kk := ?_) | refine z_e (kk := ?_) | refine z_E (kk := ?_) | refine z_d (kk := ?_) | refine z_I (kk := fun _ => ?_) | refine z_J (kk := fun _ => ?_) | refine z_K (kk := fun _ => ?_) | refine z_L (kk := fun _ => ?_) | refine z_T (kk := ?_) | refine z_F (kk := ?_) | refine z_k (kk := fun _ _ _ _ _ => ?_) | refine z_w (kk := fun _ _ => ?_) | refine z_s (kk := fun _ _ _ _ => ?_) | refine z_D (kk := ?_) | refine z_g (kk := ?_) | refine z_h (kk := ?_)))
    exact W.fret rfl ⟨rfl, Below.via hb05 hb6⟩
  | some dep =>
    have hTF := gameOf_TF hg
    have hn1 := hTF.n1
    obtain ⟨bsF, hbsF⟩ := RP.ex hTF (rd S)
    refine Ops.call rfl rfl rfl rfl rfl (check_c (bsF := bsF) hT2 (by omega) hS2 (by omega) (fun dep' h => by rw [hg] at h; cases h; exact hbsF)) (fun r w3 hR => ?_)
    obtain ⟨hb3, hR3⟩ := hR
    have hb03 := Below.via hb02 hb3
    have hT3 := hT2.below hb3
    have hS3 := Sl.below hS2 hb3
    unfold CheckR at hR3
    rw [hg] at hR3
    replace hR3 : (S.length = t.length ∧ OkP t dep S bsF ∧ r = .tuple #[.int .i64 (lst t (fun i => bsF.getD i false) far t.length), .int .i64 0]) ∨ (¬ (S.length = t.length ∧ OkP t dep S bsF) ∧ r = .tuple #[.int .i64 0, .int .i64 10]) := hR3
    clear hT2 hS2
    rcases hR3 with ⟨hsl, hok, rfl⟩ | ⟨hno, rfl⟩
    · obtain ⟨j, hj, hjl⟩ := reach_leaf hTF hbsF hok
      have hlf := (lst_far hTF (f := fun i => bsF.getD i false) t.length (Nat.le_refl _)).1 ⟨j, hj, hjl⟩
      rw [hlf]
      (repeat (first | with_reducible refine W.seq ?_ | with_reducible refine Ops.nil ?_ | with_reducible refine W.region ?_ | refine z_p (kk := ?_) | refine z_a (kk := ?_) | refine z_y (kk := ?_) | refine z_n (kk := ?_) | refine z_u (kk := ?_) | with_reducible refine W.skip ?_ | with_reducible refine W.endb ?_ | with_reducible refine W.block ?_ | refine W.exit rfl ?_ | refine z_l (kk := ?_) | refine z_f (kk := ?_) | refine z_M (kk := ?_) | refine z_m (kk := ?_) | refine z_e (kk := ?_) | refine z_E (kk := ?_) | refine z_d (kk := ?_) | refine z_I (kk := fun _ => ?_) | refine z_J (kk := fun _ => ?_) | refine z_K (kk := fun _ => ?_) | refine z_L (kk := fun _ => ?_) | refine z_T (kk := ?_) | refine z_F (kk := ?_) | refine z_k (kk := fun _ _ _ _ _ => ?_) | refine z_w (kk := fun _ _ => ?_) | refine z_s (kk := fun _ _ _ _ => ?_) | refine z_D (kk := ?_) | refine z_g (kk := ?_) | refine z_h (kk := ?_)))
      refine Ops.call rfl rfl rfl rfl rfl (refTree_c hT3 hkl) (fun r w5 hR => ?_)
      obtain ⟨rfl, hb5⟩ := hR
      have hb05 := Below.via hb03 hb5
      rw [hg]
      (repeat (first | with_reducible refine W.seq ?_ | with_reducible refine Ops.nil ?_ | with_reducible refine W.region ?_ | refine z_p (kk := ?_) | refine z_a (kk := ?_) | refine z_y (kk := ?_) | refine z_n (kk := ?_) | refine z_u (kk := ?_) | with_reducible refine W.skip ?_ | with_reducible refine W.endb ?_ | with_reducible refine W.block ?_ | refine W.exit rfl ?_ | refine z_l (kk := ?_) | refine z_f (kk := ?_) | refine z_M (kk := ?_) | refine z_m (kk := ?_) | refine z_e (kk := ?_) | refine z_E (kk := ?_) | refine z_d (kk := ?_) | refine z_I (kk := fun _ => ?_) | refine z_J (kk := fun _ => ?_) | refine z_K (kk := fun _ => ?_) | refine z_L (kk := fun _ => ?_) | refine z_T (kk := ?_) | refine z_F (kk := ?_) | refine z_k (kk := fun _ _ _ _ _ => ?_) | refine z_w (kk := fun _ _ => ?_) | refine z_s (kk := fun _ _ _ _ => ?_) | refine z_D (kk := ?_) | refine z_g (kk := ?_) | refine z_h (kk := ?_)))
      refine W.condF rfl (by first | rfl | assumption | (simp only [bnf] <;> omega) | (simp only [*, bnf]; done) | fail) ?_
      (repeat (first | with_reducible refine W.seq ?_ | with_reducible refine Ops.nil ?_ | with_reducible refine W.region ?_ | refine z_p (kk := ?_) | refine z_a (kk := ?_) | refine z_y (kk := ?_) | refine z_n (kk := ?_) | refine z_u (kk := ?_) | with_reducible refine W.skip ?_ | with_reducible refine W.endb ?_ | with_reducible refine W.block ?_ | refine W.exit rfl ?_ | refine z_l (kk := ?_) | refine z_f (kk := ?_) | refine z_M (kk := ?_) | refine z_m (kk := ?_) | refine z_e (kk := ?_) | refine z_E (kk := ?_) | refine z_d (kk := ?_) | refine z_I (kk := fun _ => ?_) | refine z_J (kk := fun _ => ?_) | refine z_K (kk := fun _ => ?_) | refine z_L (kk := fun _ => ?_) | refine z_T (kk := ?_) | refine z_F (kk := ?_) | refine z_k (kk := fun _ _ _ _ _ => ?_) | refine z_w (kk := fun _ _ => ?_) | refine z_s (kk := fun _ _ _ _ => ?_) | refine z_D (kk := ?_) | refine z_g (kk := ?_) | refine z_h (kk := ?_)))
      refine Ops.call rfl rfl rfl rfl rfl (guar_c (hT3.below hb5) hTF (Sl.below hS3 hb5) (by omega) hbsF) (fun r w6 hR => ?_)
      obtain ⟨hb6, ⟨_, _, rfl⟩ | ⟨hno, rfl⟩⟩ := hR
      · have hb06 := Below.via hb05 hb6
        (repeat (first | with_reducible refine W.seq ?_ | with_reducible refine Ops.nil ?_ | with_reducible refine W.region ?_ | refine z_p (kk := ?_) | refine z_a (kk := ?_) | refine z_y (kk := ?_) | refine z_n (kk := ?_) | refine z_u (kk := ?_) | with_reducible refine W.skip ?_ | with_reducible refine W.endb ?_ | with_reducible refine W.block ?_ | refine W.exit rfl ?_ | refine z_l (kk := ?_) | refine z_f (kk := ?_) | refine z_M (kk := ?_) | refine z_m (kk := ?_) | refine z_e (kk := ?_) | refine z_E (kk := ?_) | refine z_d (kk := ?_) | refine z_I (kk := fun _ => ?_) | refine z_J (kk := fun _ => ?_) | refine z_K (kk := fun _ => ?_) | refine z_L (kk := fun _ => ?_) | refine z_T (kk := ?_) | refine z_F (kk := ?_) | refine z_k (kk := fun _ _ _ _ _ => ?_) | refine z_w (kk := fun _ _ => ?_) | refine z_s (kk := fun _ _ _ _ => ?_) | refine z_D (kk := ?_) | refine z_g (kk := ?_) | refine z_h (kk := ?_)))
        refine W.condF rfl (by first | rfl | assumption | (simp only [bnf] <;> omega) | (simp only [*, bnf]; done) | fail) ?_
        (repeat (first | with_reducible refine W.seq ?_ | with_reducible refine Ops.nil ?_ | with_reducible refine W.region ?_ | refine z_p (kk := ?_) | refine z_a (kk := ?_) | refine z_y (kk := ?_) | refine z_n (kk := ?_) | refine z_u (kk := ?_) | with_reducible refine W.skip ?_ | with_reducible refine W.endb ?_ | with_reducible refine W.block ?_ | refine W.exit rfl ?_ | refine z_l (kk := ?_) | refine z_f (kk := ?_) | refine z_M (kk := ?_) | refine z_m (kk := ?_) | refine z_e (kk := ?_) | refine z_E (kk := ?_) | refine z_d (kk := ?_) | refine z_I (kk := fun _ => ?_) | refine z_J (kk := fun _ => ?_) | refine z_K (kk := fun _ => ?_) | refine z_L (kk := fun _ => ?_) | refine z_T (kk := ?_) | refine z_F (kk := ?_) | refine z_k (kk := fun _ _ _ _ _ => ?_) | refine z_w (kk := fun _ _ => ?_) | refine z_s (kk := fun _ _ _ _ => ?_) | refine z_D (kk := ?_) | refine z_g (kk := ?_) | refine z_h (kk := ?_)))
        refine Ops.call rfl rfl rfl rfl rfl (awake_c _) (fun r w7 hR => ?_)
        obtain ⟨rfl, hb7⟩ := hR
        (repeat (first | with_reducible refine W.seq ?_ | with_reducible refine Ops.nil ?_ | with_reducible refine W.region ?_ | refine z_p (kk := ?_) | refine z_a (kk := ?_) | refine z_y (kk := ?_) | refine z_n (kk := ?_) | refine z_u (kk := ?_) | with_reducible refine W.skip ?_ | with_reducible refine W.endb ?_ | with_reducible refine W.block ?_ | refine W.exit rfl ?_ | refine z_l (kk := ?_) | refine z_f (kk := ?_) | refine z_M (kk := ?_) | refine z_m (kk := ?_) | refine z_e (kk := ?_) | refine z_E (kk := ?_) | refine z_d (kk := ?_) | refine z_I (kk := fun _ => ?_) | refine z_J (kk := fun _ => ?_) | refine z_K (kk := fun _ => ?_) | refine z_L (kk := fun _ => ?_) | refine z_T (kk := ?_) | refine z_F (kk := ?_) | refine z_k (kk := fun _ _ _ _ _ => ?_) | refine z_w (kk := fun _ _ => ?_) | refine z_s (kk := fun _ _ _ _ => ?_) | refine z_D (kk := ?_) | refine z_g (kk := ?_) | refine z_h (kk := ?_)))
        exact W.fret rfl ⟨rfl, Below.via hb06 hb7⟩
      · exact absurd ⟨hsl, hok⟩ hno
    · (repeat (first | with_reducible refine W.seq ?_ | with_reducible refine Ops.nil ?_ | with_reducible refine W.region ?_ | refine z_p (kk := ?_) | refine z_a (kk := ?_) | refine z_y (kk := ?_) | refine z_n (kk := ?_) | refine z_u (kk := ?_) | with_reducible refine W.skip ?_ | with_reducible refine W.endb ?_ | with_reducible refine W.block ?_ | refine W.exit rfl ?_ | refine z_l (kk := ?_) | refine z_f (kk := ?_) | refine z_M (kk := ?_) | refine z_m (kk := ?_) | refine z_e (kk := ?_) | refine z_E (kk := ?_) | refine z_d (kk := ?_) | refine z_I (kk := fun _ => ?_) | refine z_J (kk := fun _ => ?_) | refine z_K (kk := fun _ => ?_) | refine z_L (kk := fun _ => ?_) | refine z_T (kk := ?_) | refine z_F (kk := ?_) | refine z_k (kk := fun _ _ _ _ _ => ?_) | refine z_w (kk := fun _ _ => ?_) | refine z_s (kk := fun _ _ _ _ => ?_) | refine z_D (kk := ?_) | refine z_g (kk := ?_) | refine z_h (kk := ?_)))
      refine Ops.call rfl rfl rfl rfl rfl (refTree_c hT3 hkl) (fun r w5 hR => ?_)
      obtain ⟨rfl, hb5⟩ := hR
      have hb05 := Below.via hb03 hb5
      rw [hg]
      (repeat (first | with_reducible refine W.seq ?_ | with_reducible refine Ops.nil ?_ | with_reducible refine W.region ?_ | refine z_p (kk := ?_) | refine z_a (kk := ?_) | refine z_y (kk := ?_) | refine z_n (kk := ?_) | refine z_u (kk := ?_) | with_reducible refine W.skip ?_ | with_reducible refine W.endb ?_ | with_reducible refine W.block ?_ | refine W.exit rfl ?_ | refine z_l (kk := ?_) | refine z_f (kk := ?_) | refine z_M (kk := ?_) | refine z_m (kk := ?_) | refine z_e (kk := ?_) | refine z_E (kk := ?_) | refine z_d (kk := ?_) | refine z_I (kk := fun _ => ?_) | refine z_J (kk := fun _ => ?_) | refine z_K (kk := fun _ => ?_) | refine z_L (kk := fun _ => ?_) | refine z_T (kk := ?_) | refine z_F (kk := ?_) | refine z_k (kk := fun _ _ _ _ _ => ?_) | refine z_w (kk := fun _ _ => ?_) | refine z_s (kk := fun _ _ _ _ => ?_) | refine z_D (kk := ?_) | refine z_g (kk := ?_) | refine z_h (kk := ?_)))
      refine W.condF rfl (by first | rfl | assumption | (simp only [bnf] <;> omega) | (simp only [*, bnf]; done) | fail) ?_
      (repeat (first | with_reducible refine W.seq ?_ | with_reducible refine Ops.nil ?_ | with_reducible refine W.region ?_ | refine z_p (kk := ?_) | refine z_a (kk := ?_) | refine z_y (kk := ?_) | refine z_n (kk := ?_) | refine z_u (kk := ?_) | with_reducible refine W.skip ?_ | with_reducible refine W.endb ?_ | with_reducible refine W.block ?_ | refine W.exit rfl ?_ | refine z_l (kk := ?_) | refine z_f (kk := ?_) | refine z_M (kk := ?_) | refine z_m (kk := ?_) | refine z_e (kk := ?_) | refine z_E (kk := ?_) | refine z_d (kk := ?_) | refine z_I (kk := fun _ => ?_) | refine z_J (kk := fun _ => ?_) | refine z_K (kk := fun _ => ?_) | refine z_L (kk := fun _ => ?_) | refine z_T (kk := ?_) | refine z_F (kk := ?_) | refine z_k (kk := fun _ _ _ _ _ => ?_) | refine z_w (kk := fun _ _ => ?_) | refine z_s (kk := fun _ _ _ _ => ?_) | refine z_D (kk := ?_) | refine z_g (kk := ?_) | refine z_h (kk := ?_)))
      refine Ops.call rfl rfl rfl rfl rfl (guar_c (hT3.below hb5) hTF (Sl.below hS3 hb5) (by omega) hbsF) (fun r w6 hR => ?_)
      obtain ⟨hb6, ⟨h1, h2, rfl⟩ | ⟨_, rfl⟩⟩ := hR
      · exact absurd ⟨h1, h2⟩ hno
      · have hb06 := Below.via hb05 hb6
        (repeat (first | with_reducible refine W.seq ?_ | with_reducible refine Ops.nil ?_ | with_reducible refine W.region ?_ | refine z_p (kk := ?_) | refine z_a (kk := ?_) | refine z_y (kk := ?_) | refine z_n (kk := ?_) | refine z_u (kk := ?_) | with_reducible refine W.skip ?_ | with_reducible refine W.endb ?_ | with_reducible refine W.block ?_ | refine W.exit rfl ?_ | refine z_l (kk := ?_) | refine z_f (kk := ?_) | refine z_M (kk := ?_) | refine z_m (kk := ?_) | refine z_e (kk := ?_) | refine z_E (kk := ?_) | refine z_d (kk := ?_) | refine z_I (kk := fun _ => ?_) | refine z_J (kk := fun _ => ?_) | refine z_K (kk := fun _ => ?_) | refine z_L (kk := fun _ => ?_) | refine z_T (kk := ?_) | refine z_F (kk := ?_) | refine z_k (kk := fun _ _ _ _ _ => ?_) | refine z_w (kk := fun _ _ => ?_) | refine z_s (kk := fun _ _ _ _ => ?_) | refine z_D (kk := ?_) | refine z_g (kk := ?_) | refine z_h (kk := ?_)))
        refine W.condT rfl (by first | rfl | assumption | (simp only [bnf] <;> omega) | (simp only [*, bnf]; done) | fail) ?_
        (repeat (first | with_reducible refine W.seq ?_ | with_reducible refine Ops.nil ?_ | with_reducible refine W.region ?_ | refine z_p (kk := ?_) | refine z_a (kk := ?_) | refine z_y (kk := ?_) | refine z_n (kk := ?_) | refine z_u (kk := ?_) | with_reducible refine W.skip ?_ | with_reducible refine W.endb ?_ | with_reducible refine W.block ?_ | refine W.exit rfl ?_ | refine z_l (kk := ?_) | refine z_f (kk := ?_) | refine z_M (kk := ?_) | refine z_m (kk := ?_) | refine z_e (kk := ?_) | refine z_E (kk := ?_) | refine z_d (kk := ?_) | refine z_I (kk := fun _ => ?_) | refine z_J (kk := fun _ => ?_) | refine z_K (kk := fun _ => ?_) | refine z_L (kk := fun _ => ?_) | refine z_T (kk := ?_) | refine z_F (kk := ?_) | refine z_k (kk := fun _ _ _ _ _ => ?_) | refine z_w (kk := fun _ _ => ?_) | refine z_s (kk := fun _ _ _ _ => ?_) | refine z_D (kk := ?_) | refine z_g (kk := ?_) | refine z_h (kk := ?_)))
        refine Ops.call rfl rfl rfl rfl rfl (awake_c _) (fun r w7 hR => ?_)
        obtain ⟨rfl, hb7⟩ := hR
        (repeat (first | with_reducible refine W.seq ?_ | with_reducible refine Ops.nil ?_ | with_reducible refine W.region ?_ | refine z_p (kk := ?_) | refine z_a (kk := ?_) | refine z_y (kk := ?_) | refine z_n (kk := ?_) | refine z_u (kk := ?_) | with_reducible refine W.skip ?_ | with_reducible refine W.endb ?_ | with_reducible refine W.block ?_ | refine W.exit rfl ?_ | refine z_l (kk := ?_) | refine z_f (kk := ?_) | refine z_M (kk := ?_) | refine z_m (kk := ?_) | refine z_e (kk := ?_) | refine z_E (kk := ?_) | refine z_d (kk := ?_) | refine z_I (kk := fun _ => ?_) | refine z_J (kk := fun _ => ?_) | refine z_K (kk := fun _ => ?_) | refine z_L (kk := fun _ => ?_) | refine z_T (kk := ?_) | refine z_F (kk := ?_) | refine z_k (kk := fun _ _ _ _ _ => ?_) | refine z_w (kk := fun _ _ => ?_) | refine z_s (kk := fun _ _ _ _ => ?_) | refine z_D (kk := ?_) | refine z_g (kk := ?_) | refine z_h (kk := ?_)))
        exact W.fret rfl ⟨rfl, Below.via hb06 hb7⟩
end Go.Proofs.Ytdiljpnfochndaa
/- Arguments as the walks read them. -/
namespace Go.Proofs.Ytdiljpnfochndaa.VW
open Go Go.RowKit
theorem sl_open {w : World} {x : Addr} {len cap : Nat} {zs : List Int} (hl : len ≤ cap) (hm : cap ≤ maxLen) (hz : zs.length = cap) (hc : ∀ i, i < zs.length → w.cell? (x.add i) = some (.int .i64 (zs.getD i 0))) : SlI w (.slice (some x) len cap) (zs.take len) := by
  have hlen : (zs.take len).length = len := by rw [List.length_take]; omega
  refine ⟨by rw [hlen]; simp only [maxLen] at hm; omega, some x, cap, by rw [hlen], fun _ => ⟨x, rfl, fun j hj => ?_⟩⟩
  rw [hlen] at hj
  rw [hc j (by omega)]
  simp [List.getD_eq_getElem?_getD, List.getElem?_take, hj]
end Go.Proofs.Ytdiljpnfochndaa.VW
/- Trees and lists among the arguments. -/
namespace Go.Proofs.Ytdiljpnfochndaa
open Go Go.RowKit Go.ChangeShapes Go.Proofs.Ytdiljpnfochndaa.VW
open Go.Proofs.Ytdiljpnfochndaa.HP (Nd kid wor)
theorem arg_open {w : World} {x : Addr} {len cap : Nat} {zs : List Int} (hl : len ≤ cap) (hm : cap ≤ maxLen) (hz : zs.length = cap) (hc : ∀ i, i < zs.length → w.cell? (x.add i) = some (.int .i64 (zs.getD i 0))) : Arg w (.slice (some x) len cap) (zs.take len) := by
  have hlen : (zs.take len).length = len := by rw [List.length_take]; omega
  exact ⟨sl_open hl hm hz hc, some x, cap, by rw [hlen], by omega⟩
theorem ints_arg {H : Type} {enc : TypeId × Value → H} {P : Program} {W : World} {t e : TypeId} {fuel : Nat} {v : Value} {x : DataW H × List MemPlace} (ht : P.underlying t = some (.slice e)) (he : P.underlying e = some (.int .i64)) (hc : P.cellsOf e = 1)
    (h : DataW.trod enc P W 0 (fun _ => true) true fuel t [v] = some x) : ∃ zs, Arg W v zs := by
  rcases open_ints ht he hc h with ⟨hcs, _⟩ | ⟨x, l, c, zs, hcs, _, hl, hm, hz, _, hcell, hwz⟩
  · simp at hcs
    subst hcs
    exact ⟨[], Sl.nil _ _ _ _ _, none, 0, rfl, Nat.le_refl _⟩
  · simp at hcs
    subst hcs
    exact ⟨_, arg_open hl hm (by simpa using hz) hcell⟩
theorem moves_arg {H : Type} {enc : TypeId × Value → H} {P : Program} {W : World} {t m s e : TypeId} {fuel : Nat} {v : Value} {x : DataW H × List MemPlace} {fs : Array Field} {f0 f1 : Field} (ht : P.underlying t = some (.slice m)) (hm : P.underlying m = some (.struct fs)) (hcm : P.cellsOf m = 2)
    (h0 : fs[0]? = some f0) (h1 : fs[1]? = some f1) (o0 : f0.offset = 0) (o1 : f1.offset = 1) (t0 : f0.type = s) (t1 : f1.type = e) (hs : P.underlying s = some (.slice e)) (he : P.underlying e = some (.int .i64)) (hcs : P.cellsOf s = 1) (hce : P.cellsOf e = 1)
    (h : DataW.trod enc P W 0 (fun _ => true) true fuel t [v] = some x) : ∃ l, ArgT W v l := by
  rcases DataW.trod_slice ht h with ⟨hv, _⟩ | ⟨a, len, cap, elems, rest, n, _, hv, _, hb, hl, hm2, hlen, hel, _, _⟩
  · simp at hv
    subst hv
    refine ⟨[], ⟨none, 0, [], rfl, fun h => by simp at h, fun j hj => by simp at hj⟩, by simp, fun i h1 h2 => by simp at h2; omega⟩
  · simp at hv
    subst hv
    have each : ∀ i, i < len → ∃ (cv : Value) (xs : List Int) (z : Int), W.cell? (a.add (i * 2)) = some cv ∧ W.cell? ((a.add (i * 2)).add 1) = some (.int .i64 z) ∧ Arg W cv xs := by
      intro i hi
      have hy := hel i hi
      rw [List.getElem?_eq_getElem (by omega), hcm, Option.bind_eq_some_iff] at hy
      obtain ⟨cs, hcs2, hst⟩ := hy
      obtain ⟨_, hcl, hcc⟩ := World.cells?_some hcs2
      obtain ⟨xs, n', _, _, _, hxl, hfld⟩ := DataW.trod_struct hm hst
      have q0 := hfld 0 f0 h0
      have q1 := hfld 1 f1 h1
      have hfs : 2 ≤ fs.size := by have := (Array.getElem?_eq_some_iff.1 h1).1; omega
      rw [o0, t0, hcs, List.getElem?_eq_getElem (by omega)] at q0
      rw [o1, t1, hce, List.getElem?_eq_getElem (by omega)] at q1
      obtain ⟨c0, c1, rfl⟩ : ∃ c0 c1, cs = [c0, c1] := by
        match cs, hcl with
        | [c0, c1], _ => exact ⟨c0, c1, rfl⟩
      simp only [List.drop_zero, List.take_succ_cons, List.take_zero] at q0
      simp only [List.drop_succ_cons, List.drop_zero, List.take_succ_cons, List.take_zero] at q1
      obtain ⟨zs, hz⟩ := ints_arg hs he hce q0
      obtain ⟨z, hz1, _, _⟩ := DataW.trod_int he q1
      simp at hz1
      subst hz1
      have g0 := hcc 0 (by omega)
      have g1 := hcc 1 (by omega)
      simp only [List.getElem?_cons_zero, List.getElem?_cons_succ] at g0 g1
      rw [show ∀ p : Addr, p.add 0 = p from add_zero'] at g0
      exact ⟨c0, zs, z, g0, g1, hz⟩
    have hx : ∀ i, ∃ q : Value × List Int × Int, i < len → W.cell? (a.add (i * 2)) = some q.1 ∧ W.cell? ((a.add (i * 2)).add 1) = some (.int .i64 q.2.2) ∧ Arg W q.1 q.2.1 := fun i => by
      by_cases hi : i < len
      · obtain ⟨cv, xs, z, g⟩ := each i hi
        exact ⟨⟨cv, xs, z⟩, fun _ => g⟩
      · exact ⟨⟨undef, [], 0⟩, fun h => absurd h hi⟩
    let q : Nat → Value × List Int × Int := fun i => Classical.choose (hx i)
    have hq : ∀ i, i < len → W.cell? (a.add (i * 2)) = some (q i).1 ∧ W.cell? ((a.add (i * 2)).add 1) = some (.int .i64 (q i).2.2) ∧ Arg W (q i).1 (q i).2.1 := fun i => Classical.choose_spec (hx i)
    let l : List Nd := (List.range len).map fun i => ((q i).2.1, (q i).2.2)
    have hll : l.length = len := by simp [l]
    have hlg : ∀ i, i < len → l.getD i ([], 0) = ((q i).2.1, (q i).2.2) := fun i hi => by simp [l, List.getD_eq_getElem?_getD, hi]
    let cvs : List Value := (List.range len).map fun i => (q i).1
    have hcg : ∀ i, i < len → cvs.getD i undef = (q i).1 := fun i hi => by simp [cvs, List.getD_eq_getElem?_getD, hi]
    have hT : TreeM W (.slice (some a) len cap) l := by
      refine ⟨some a, cap, cvs, by rw [hll], fun _ => ⟨a, rfl, fun j hj => ?_⟩, fun j hj => ?_⟩
      · rw [hll] at hj
        rw [hcg j hj, hlg j hj]
        exact ⟨(hq j hj).1, (hq j hj).2.1⟩
      · rw [hll] at hj
        rw [hcg j hj, hlg j hj]
        exact (hq j hj).2.2.1
    refine ⟨l, hT, by rw [hll]; simp only [maxLen] at hm2; omega, fun i h0 hi => ?_⟩
    rw [hll] at hi
    obtain ⟨g0, g1, g2, A', c', g3, g4⟩ := hq i.toNat (by omega)
    have hk : kid l i = (q i.toNat).2.1 := by unfold kid; rw [hlg i.toNat (by omega)]
    have hw : wor l i = (q i.toNat).2.2 := by unfold wor; rw [hlg i.toNat (by omega)]
    rw [hk, hw]
    refine ⟨a, cap, A', c', by rw [hll], by rw [← g3]; exact g2, g4, fun w' hb => ?_⟩
    have kk := Kp.of_below (S := fun _ => False) hb
    exact ⟨by rw [← g3]; exact cell_kp kk g0 (fun e => e), cell_kp kk g1 (fun e => e)⟩
end Go.Proofs.Ytdiljpnfochndaa
