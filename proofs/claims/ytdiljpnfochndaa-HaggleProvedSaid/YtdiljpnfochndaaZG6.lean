/- A part of the walk: what this seat's statements share. -/
import Derived.Test.YtdiljpnfochndaaZG5
import Derived.Test.YtdiljpnfochndaaZG4
import Derived.Laws.Entries
set_option linter.unusedVariables false
set_option linter.unusedSimpArgs false
set_option linter.unusedSectionVars false
namespace Go.Proofs.Ytdiljpnfochndaa
open Go Go.RowKit Go.Proofs.Ytdiljpnfochndaa.VW
open Go.Proofs.Ytdiljpnfochndaa.HP (Nd kid wor leafB rd evB TF far GoodE gameOf gameOf_TF kidsS srS srS_good kids_good)
attribute [local irreducible] W Ops
def selfV (bg bv bt bs : Nat) : Value := .func (.func 73) #[] #[.pointer (some ⟨bg, 0, none⟩), .pointer (some ⟨bv, 0, none⟩), .pointer (some ⟨bt, 0, none⟩), .pointer (some ⟨bs, 0, none⟩)]
/-- What the search keeps: the leaves visited so far, and itself. -/
structure SInv (wG : World) (bg bv bt bs : Nat) (vis : List Int) (w : World) : Prop where
  bel : Below wG.heap.size wG w
  self : Blk w bs #[selfV bg bv bt bs] 88
  vis : ∃ lv, Blk w bv #[lv] 24 ∧ w.ownsRow 0 3 1 lv vis.length (vis.map (Value.int .i64)) ∧ ∀ k, lv.ownBlock = some k → wG.heap.size ≤ k ∧ k ≠ bv ∧ k ≠ bs
set_option maxRecDepth 100000 in
theorem srch_c {wG : World} {g bg bv bt bs : Nat} {tv : Value} {l : List Nd} {dep : List Int} (hG : Game wG g l dep) (hT : TF l dep) (hTr : TreeM wG tv l) (hBG : Blk wG bg #[.pointer (some ⟨g, 0, none⟩)] 69) (hBT : Blk wG bt #[tv] 22)
    (hbv : wG.heap.size ≤ bv) (hbs : wG.heap.size ≤ bs) (hne : bv ≠ bs) : ∀ (f i : Nat) (lo hi : Int) (vis : List Int) (w : World), i < l.length → l.length ≤ i + f → vis.length + 60 * f ≤ 1000000 → SInv wG bg bv bt bs vis w →
    Calls Try.prog 73 #[.int .i64 i, .int .i64 lo, .int .i64 hi, .pointer (some ⟨bg, 0, none⟩), .pointer (some ⟨bv, 0, none⟩), .pointer (some ⟨bt, 0, none⟩), .pointer (some ⟨bs, 0, none⟩)] w
      (Ret fun r w' => r = .int .i64 (srS l dep f i lo hi).1 ∧ SInv wG bg bv bt bs (vis ++ (srS l dep f i lo hi).2) w') := by
  intro f
  induction f with
  | zero => intro i lo hi vis w h1 h2; omega
  | succ f ih =>
    intro i lo hi vis w hi1 hi2 hvl hS
    have hn60 := hT.n60
    have hG0 := hG.below hS.bel
    have hBG0 := hBG.kp (Kp.of_below (S := fun _ => False) hS.bel) (fun e => e)
    have hBT0 := hBT.kp (Kp.of_below (S := fun _ => False) hS.bel) (fun e => e)
    obtain ⟨At, ct, rfl⟩ := hTr.sl
    have hself := hS.self
    refine calls_W (vs := [_, _, _, _, _, _, _]) Try.func73 rfl (by kernel_rfl) rfl ?_
    (repeat (first | with_reducible refine W.seq ?_ | with_reducible refine Ops.nil ?_ | with_reducible refine W.region ?_ | refine Ops.pu rfl rfl rfl ?_ | refine Ops.ar rfl rfl rfl (by omega) ?_ | refine Ops.yes rfl rfl rfl ?_ | refine Ops.no rfl rfl rfl rfl rfl ?_ | refine Ops.nu rfl rfl rfl rfl ?_ | with_reducible refine W.skip ?_ | with_reducible refine W.endb ?_ | with_reducible refine W.block ?_ | refine W.exit rfl ?_ | refine Ops.len rfl rfl rfl rfl rfl ?_ | refine Ops.flp rfl rfl rfl rfl rfl ?_ | refine Ops.max rfl rfl rfl rfl rfl ?_ | refine Ops.min rfl rfl rfl rfl rfl ?_ | refine Ops.eqB rfl rfl rfl rfl rfl rfl ?_ | refine Ops.neB rfl rfl rfl rfl rfl rfl ?_ | (apply Ops.ldB rfl rfl rfl rfl rfl; assumption; rfl)))
    refine W.scope (fun _ _ _ h => h) ?_
    (repeat (first | with_reducible refine W.seq ?_ | with_reducible refine Ops.nil ?_ | with_reducible refine W.region ?_ | refine Ops.pu rfl rfl rfl ?_ | refine Ops.ar rfl rfl rfl (by omega) ?_ | refine Ops.yes rfl rfl rfl ?_ | refine Ops.no rfl rfl rfl rfl rfl ?_ | refine Ops.nu rfl rfl rfl rfl ?_ | with_reducible refine W.skip ?_ | with_reducible refine W.endb ?_ | with_reducible refine W.block ?_ | refine W.exit rfl ?_ | refine Ops.len rfl rfl rfl rfl rfl ?_ | refine Ops.flp rfl rfl rfl rfl rfl ?_ | refine Ops.max rfl rfl rfl rfl rfl ?_ | refine Ops.min rfl rfl rfl rfl rfl ?_ | refine Ops.eqB rfl rfl rfl rfl rfl rfl ?_ | refine Ops.neB rfl rfl rfl rfl rfl rfl ?_ | (apply Ops.ldB rfl rfl rfl rfl rfl; assumption; rfl)))
    refine Ops.callS rfl rfl rfl rfl rfl (isLeaf_c hG0 i (by omega) (by omega)) ?_
    (repeat (first | with_reducible refine W.seq ?_ | with_reducible refine Ops.nil ?_ | with_reducible refine W.region ?_ | refine Ops.pu rfl rfl rfl ?_ | refine Ops.ar rfl rfl rfl (by omega) ?_ | refine Ops.yes rfl rfl rfl ?_ | refine Ops.no rfl rfl rfl rfl rfl ?_ | refine Ops.nu rfl rfl rfl rfl ?_ | with_reducible refine W.skip ?_ | with_reducible refine W.endb ?_ | with_reducible refine W.block ?_ | refine W.exit rfl ?_ | refine Ops.len rfl rfl rfl rfl rfl ?_ | refine Ops.flp rfl rfl rfl rfl rfl ?_ | refine Ops.max rfl rfl rfl rfl rfl ?_ | refine Ops.min rfl rfl rfl rfl rfl ?_ | refine Ops.eqB rfl rfl rfl rfl rfl rfl ?_ | refine Ops.neB rfl rfl rfl rfl rfl rfl ?_ | (apply Ops.ldB rfl rfl rfl rfl rfl; assumption; rfl)))
    refine W.cond rfl (fun hlf => ?_) (fun hlf => ?_)
    · obtain ⟨lv, hBV, hown, hge⟩ := hS.vis
      (repeat (first | with_reducible refine W.seq ?_ | with_reducible refine Ops.nil ?_ | with_reducible refine W.region ?_ | refine Ops.pu rfl rfl rfl ?_ | refine Ops.ar rfl rfl rfl (by omega) ?_ | refine Ops.yes rfl rfl rfl ?_ | refine Ops.no rfl rfl rfl rfl rfl ?_ | refine Ops.nu rfl rfl rfl rfl ?_ | with_reducible refine W.skip ?_ | with_reducible refine W.endb ?_ | with_reducible refine W.block ?_ | refine W.exit rfl ?_ | refine Ops.len rfl rfl rfl rfl rfl ?_ | refine Ops.flp rfl rfl rfl rfl rfl ?_ | refine Ops.max rfl rfl rfl rfl rfl ?_ | refine Ops.min rfl rfl rfl rfl rfl ?_ | refine Ops.eqB rfl rfl rfl rfl rfl rfl ?_ | refine Ops.neB rfl rfl rfl rfl rfl rfl ?_ | (apply Ops.ldB rfl rfl rfl rfl rfl; assumption; rfl)))
      refine Ops.push rfl rfl rfl rfl rfl rfl rfl rfl rfl rfl rfl rfl (fun _ => rfl) rfl hown (by omega) (fun lv' p w1 hown1 k1 hn1 => ?_)
      have hBV1 := hBV.kp k1 (fun e => (hge bv e).2.1 rfl)
      have hlv1 : lv'.oneCell' = true := by obtain ⟨A, c, h⟩ := Sl.sl (own_sl (enc := Value.int .i64) (z := (0 : Int)) (xs := vis ++ [(i : Int)]) (by simpa using hown1)); rw [h]; rfl
      refine Ops.st rfl rfl rfl rfl rfl rfl hlv1 hBV1 (by simp) (fun w2 hu => ?_)
      have hltv : bv < w.heap.size := (Array.getElem?_eq_some_iff.1 hBV).1
      have hlts : bs < w.heap.size := (Array.getElem?_eq_some_iff.1 hself).1
      have hge' : ∀ k, lv'.ownBlock = some k → wG.heap.size ≤ k ∧ k ≠ bv ∧ k ≠ bs := by
        intro k hk
        rcases hn1 k hk with h | h
        · exact hge k h
        · have := hS.bel.size
          exact ⟨by omega, by omega, by omega⟩
      have hS2 : SInv wG bg bv bt bs (vis ++ [(i : Int)]) w2 := by
        refine ⟨Below.at_ (Below.at_ hS.bel k1 (fun j hj => (hge j hj).1)) hu.kp (fun j hj => by omega), (hself.kp k1 (fun e => (hge bs e).2.2 rfl)).kp hu.kp (fun e => hne e.symm), lv', hu.blk, ?_, hge'⟩
        have h2 := own_kp hown1 hu.kp (fun j hj e => (hge' j hj).2.1 e)
        simpa using h2
      have hG2 := hG.below hS2.bel
      have hBG2 := hBG.kp (Kp.of_below (S := fun _ => False) hS2.bel) (fun e => e)
      (repeat (first | with_reducible refine W.seq ?_ | with_reducible refine Ops.nil ?_ | with_reducible refine W.region ?_ | refine Ops.pu rfl rfl rfl ?_ | refine Ops.ar rfl rfl rfl (by omega) ?_ | refine Ops.yes rfl rfl rfl ?_ | refine Ops.no rfl rfl rfl rfl rfl ?_ | refine Ops.nu rfl rfl rfl rfl ?_ | with_reducible refine W.skip ?_ | with_reducible refine W.endb ?_ | with_reducible refine W.block ?_ | refine W.exit rfl ?_ | refine Ops.len rfl rfl rfl rfl rfl ?_ | refine Ops.flp rfl rfl rfl rfl rfl ?_ | refine Ops.max rfl rfl rfl rfl rfl ?_ | refine Ops.min rfl rfl rfl rfl rfl ?_ | refine Ops.eqB rfl rfl rfl rfl rfl rfl ?_ | refine Ops.neB rfl rfl rfl rfl rfl rfl ?_ | (apply Ops.ldB rfl rfl rfl rfl rfl; assumption; rfl)))
      refine Ops.callS rfl rfl rfl rfl rfl (worth_c hG2 i (by omega) (by omega)) ?_
      (repeat (first | with_reducible refine W.seq ?_ | with_reducible refine Ops.nil ?_ | with_reducible refine W.region ?_ | refine Ops.pu rfl rfl rfl ?_ | refine Ops.ar rfl rfl rfl (by omega) ?_ | refine Ops.yes rfl rfl rfl ?_ | refine Ops.no rfl rfl rfl rfl rfl ?_ | refine Ops.nu rfl rfl rfl rfl ?_ | with_reducible refine W.skip ?_ | with_reducible refine W.endb ?_ | with_reducible refine W.block ?_ | refine W.exit rfl ?_ | refine Ops.len rfl rfl rfl rfl rfl ?_ | refine Ops.flp rfl rfl rfl rfl rfl ?_ | refine Ops.max rfl rfl rfl rfl rfl ?_ | refine Ops.min rfl rfl rfl rfl rfl ?_ | refine Ops.eqB rfl rfl rfl rfl rfl rfl ?_ | refine Ops.neB rfl rfl rfl rfl rfl rfl ?_ | (apply Ops.ldB rfl rfl rfl rfl rfl; assumption; rfl)))
      have e : srS l dep (f + 1) i lo hi = (wor l i, [(i : Int)]) := by simp only [srS]; rw [if_pos hlf]
      exact W.fret rfl ⟨by rw [e]; rfl, by rw [e]; exact hS2⟩
    · (repeat (first | with_reducible refine W.seq ?_ | with_reducible refine Ops.nil ?_ | with_reducible refine W.region ?_ | refine Ops.pu rfl rfl rfl ?_ | refine Ops.ar rfl rfl rfl (by omega) ?_ | refine Ops.yes rfl rfl rfl ?_ | refine Ops.no rfl rfl rfl rfl rfl ?_ | refine Ops.nu rfl rfl rfl rfl ?_ | with_reducible refine W.skip ?_ | with_reducible refine W.endb ?_ | refine W.exit rfl ?_ | refine Ops.len rfl rfl rfl rfl rfl ?_ | refine Ops.flp rfl rfl rfl rfl rfl ?_ | refine Ops.max rfl rfl rfl rfl rfl ?_ | refine Ops.min rfl rfl rfl rfl rfl ?_ | refine Ops.eqB rfl rfl rfl rfl rfl rfl ?_ | refine Ops.neB rfl rfl rfl rfl rfl rfl ?_ | (apply Ops.ldB rfl rfl rfl rfl rfl; assumption; rfl)))
      refine W.label ?_
      (repeat (first | with_reducible refine W.seq ?_ | with_reducible refine Ops.nil ?_ | with_reducible refine W.region ?_ | refine Ops.pu rfl rfl rfl ?_ | refine Ops.ar rfl rfl rfl (by omega) ?_ | refine Ops.yes rfl rfl rfl ?_ | refine Ops.no rfl rfl rfl rfl rfl ?_ | refine Ops.nu rfl rfl rfl rfl ?_ | with_reducible refine W.skip ?_ | with_reducible refine W.endb ?_ | refine W.exit rfl ?_ | refine Ops.len rfl rfl rfl rfl rfl ?_ | refine Ops.flp rfl rfl rfl rfl rfl ?_ | refine Ops.max rfl rfl rfl rfl rfl ?_ | refine Ops.min rfl rfl rfl rfl rfl ?_ | refine Ops.eqB rfl rfl rfl rfl rfl rfl ?_ | refine Ops.neB rfl rfl rfl rfl rfl rfl ?_ | (apply Ops.ldB rfl rfl rfl rfl rfl; assumption; rfl)))
      refine Ops.rdK rfl rfl rfl rfl rfl rfl rfl rfl rfl rfl rfl rfl rfl rfl rfl hTr hS.bel (by omega) (by omega) (fun cv p q' hcv => ?_)
      obtain ⟨Ac, cc, rfl⟩ := Sl.sl hcv
      have hkl := hT.klen i hi1
      have hsr : srS l dep (f + 1) i lo hi = (if evB dep i then (kidsS (srS l dep f) (evB dep i) (kid l i) lo hi).1 else (kidsS (srS l dep f) (evB dep i) (kid l i) lo hi).2.1, (kidsS (srS l dep f) (evB dep i) (kid l i) lo hi).2.2) := by simp only [srS]; rw [if_neg (by rw [hlf]; simp)]
      have hgk : ∀ c ∈ kid l i, ∀ lo hi, GoodE l c (srS l dep f c lo hi).2 := fun c hc lo hi => by
        obtain ⟨h1, h2⟩ := Go.Proofs.Ytdiljpnfochndaa.HP.mem_kid hT hi1 hc
        have := srS_good hT f c.toNat lo hi (by omega)
        rw [show ((c.toNat : Nat) : Int) = c by omega] at this
        exact this
      have hgood := (kids_good hT hi1 (rec := srS l dep f) (ev := evB dep i) hgk _ 0 rfl (Nat.zero_le _) lo hi).1.len
      rw [List.drop_zero] at hgood
      rw [hsr]
      generalize hQ : kidsS (srS l dep f) (evB dep i) (kid l i) lo hi = Q at *
      (repeat (first | with_reducible refine W.seq ?_ | with_reducible refine Ops.nil ?_ | with_reducible refine W.region ?_ | refine Ops.pu rfl rfl rfl ?_ | refine Ops.ar rfl rfl rfl (by omega) ?_ | refine Ops.yes rfl rfl rfl ?_ | refine Ops.no rfl rfl rfl rfl rfl ?_ | refine Ops.nu rfl rfl rfl rfl ?_ | with_reducible refine W.skip ?_ | with_reducible refine W.endb ?_ | refine W.exit rfl ?_ | refine Ops.len rfl rfl rfl rfl rfl ?_ | refine Ops.flp rfl rfl rfl rfl rfl ?_ | refine Ops.max rfl rfl rfl rfl rfl ?_ | refine Ops.min rfl rfl rfl rfl rfl ?_ | refine Ops.eqB rfl rfl rfl rfl rfl rfl ?_ | refine Ops.neB rfl rfl rfl rfl rfl rfl ?_ | (apply Ops.ldB rfl rfl rfl rfl rfl; assumption; rfl)))
      refine W.cut (fun ρ w' => ρ = [(0, .int .i64 i), (1, .int .i64 Q.1), (2, .int .i64 Q.2.1), (3, .pointer (some ⟨bg, 0, none⟩))] ∧ SInv wG bg bv bt bs (vis ++ Q.2.2) w') ?_ ?_
      · refine W.block ?_
        refine W.loop (fun m ρ w1 => ∃ (t : Nat) (lo' hi' : Int) (acc : List Int), m = (kid l i).length - t ∧ t ≤ (kid l i).length ∧ ρ = [(0, .int .i64 i), (1, .int .i64 lo'), (2, .int .i64 hi'), (3, .pointer (some ⟨bg, 0, none⟩)), (6, .pointer (some ⟨bs, 0, none⟩)), (28, .slice Ac (kid l i).length cc), (29, .int .i64 (kid l i).length), (30, .int .i64 t)] ∧
            SInv wG bg bv bt bs (vis ++ acc) w1 ∧ (kidsS (srS l dep f) (evB dep i) ((kid l i).drop t) lo' hi').1 = Q.1 ∧ (kidsS (srS l dep f) (evB dep i) ((kid l i).drop t) lo' hi').2.1 = Q.2.1 ∧ acc ++ (kidsS (srS l dep f) (evB dep i) ((kid l i).drop t) lo' hi').2.2 = Q.2.2)
          ⟨_, _, ⟨0, lo, hi, [], rfl, Nat.zero_le _, rfl, by rw [List.append_nil]; exact hS, by rw [List.drop_zero, hQ], by rw [List.drop_zero, hQ], by rw [List.drop_zero, hQ]; rfl⟩, (by repeat (first | exact trivial | refine And.intro rfl ?_))⟩ ?_
        rintro m ρ w1 ⟨t, lo', hi', acc, rfl, ht, rfl, hS1, hq1, hq2, hq3⟩
        have hacc : acc.length ≤ l.length := by rw [← hq3, List.length_append] at hgood; omega
        have hself1 := hS1.self
        have hG1 := hG.below hS1.bel
        have hBG1 := hBG.kp (Kp.of_below (S := fun _ => False) hS1.bel) (fun e => e)
        (repeat (first | with_reducible refine W.seq ?_ | with_reducible refine Ops.nil ?_ | with_reducible refine W.region ?_ | refine Ops.pu rfl rfl rfl ?_ | refine Ops.ar rfl rfl rfl (by omega) ?_ | refine Ops.yes rfl rfl rfl ?_ | refine Ops.no rfl rfl rfl rfl rfl ?_ | refine Ops.nu rfl rfl rfl rfl ?_ | with_reducible refine W.skip ?_ | with_reducible refine W.endb ?_ | with_reducible refine W.block ?_ | refine W.exit rfl ?_ | refine Ops.len rfl rfl rfl rfl rfl ?_ | refine Ops.flp rfl rfl rfl rfl rfl ?_ | refine Ops.max rfl rfl rfl rfl rfl ?_ | refine Ops.min rfl rfl rfl rfl rfl ?_ | refine Ops.eqB rfl rfl rfl rfl rfl rfl ?_ | refine Ops.neB rfl rfl rfl rfl rfl rfl ?_ | (apply Ops.ldB rfl rfl rfl rfl rfl; assumption; rfl)))
        refine W.cond rfl (fun hc => ?_) (fun hc => ?_)
        · have hlt : t < (kid l i).length := by simp at hc; omega
          have hkin := hT.kin i t hi1 hlt
          simp only [Go.Proofs.Ytdiljpnfochndaa.HP.k_] at hkin
          rw [Go.Proofs.Ytdiljpnfochndaa.HP.drop_get _ _ (0 : Int) hlt] at hq1 hq2 hq3
          (repeat (first | with_reducible refine W.seq ?_ | with_reducible refine Ops.nil ?_ | with_reducible refine W.region ?_ | refine Ops.pu rfl rfl rfl ?_ | refine Ops.ar rfl rfl rfl (by omega) ?_ | refine Ops.yes rfl rfl rfl ?_ | refine Ops.no rfl rfl rfl rfl rfl ?_ | refine Ops.nu rfl rfl rfl rfl ?_ | with_reducible refine W.skip ?_ | with_reducible refine W.endb ?_ | with_reducible refine W.block ?_ | refine W.exit rfl ?_ | refine Ops.len rfl rfl rfl rfl rfl ?_ | refine Ops.flp rfl rfl rfl rfl rfl ?_ | refine Ops.max rfl rfl rfl rfl rfl ?_ | refine Ops.min rfl rfl rfl rfl rfl ?_ | refine Ops.eqB rfl rfl rfl rfl rfl rfl ?_ | refine Ops.neB rfl rfl rfl rfl rfl rfl ?_ | (apply Ops.ldB rfl rfl rfl rfl rfl; assumption; rfl)))
          refine Ops.rdS (enc := Value.int .i64) (z := (0 : Int)) rfl rfl rfl rfl rfl rfl rfl rfl rfl rfl rfl (Sl.below hcv hS1.bel) (by omega) (by omega) (fun p => ?_)
          simp only [Int.toNat_natCast]
          generalize hcj : (kid l i).getD t 0 = cj at *
          obtain ⟨j, rfl⟩ := Int.eq_ofNat_of_zero_le (show 0 ≤ cj by omega)
          (repeat (first | with_reducible refine W.seq ?_ | with_reducible refine Ops.nil ?_ | with_reducible refine W.region ?_ | refine Ops.pu rfl rfl rfl ?_ | refine Ops.ar rfl rfl rfl (by omega) ?_ | refine Ops.yes rfl rfl rfl ?_ | refine Ops.no rfl rfl rfl rfl rfl ?_ | refine Ops.nu rfl rfl rfl rfl ?_ | with_reducible refine W.skip ?_ | with_reducible refine W.endb ?_ | with_reducible refine W.block ?_ | refine W.exit rfl ?_ | refine Ops.len rfl rfl rfl rfl rfl ?_ | refine Ops.flp rfl rfl rfl rfl rfl ?_ | refine Ops.max rfl rfl rfl rfl rfl ?_ | refine Ops.min rfl rfl rfl rfl rfl ?_ | refine Ops.eqB rfl rfl rfl rfl rfl rfl ?_ | refine Ops.neB rfl rfl rfl rfl rfl rfl ?_ | (apply Ops.ldB rfl rfl rfl rfl rfl; assumption; rfl)))
          refine Ops.call rfl rfl rfl rfl rfl (ih j lo' hi' (vis ++ acc) w1 (by omega) (by omega) (by rw [List.length_append]; omega) hS1) (fun r w2 hR => ?_)
          obtain ⟨rfl, hS2⟩ := hR
          simp only [kidsS] at hq1 hq2 hq3
          generalize srS l dep f j lo' hi' = X at *
          have hG2 := hG.below hS2.bel
          have hBG2 := hBG.kp (Kp.of_below (S := fun _ => False) hS2.bel) (fun e => e)
          rw [List.append_assoc] at hS2
          (repeat (first | with_reducible refine W.seq ?_ | with_reducible refine Ops.nil ?_ | with_reducible refine W.region ?_ | refine Ops.pu rfl rfl rfl ?_ | refine Ops.ar rfl rfl rfl (by omega) ?_ | refine Ops.yes rfl rfl rfl ?_ | refine Ops.no rfl rfl rfl rfl rfl ?_ | refine Ops.nu rfl rfl rfl rfl ?_ | with_reducible refine W.skip ?_ | with_reducible refine W.endb ?_ | with_reducible refine W.block ?_ | refine W.exit rfl ?_ | refine Ops.len rfl rfl rfl rfl rfl ?_ | refine Ops.flp rfl rfl rfl rfl rfl ?_ | refine Ops.max rfl rfl rfl rfl rfl ?_ | refine Ops.min rfl rfl rfl rfl rfl ?_ | refine Ops.eqB rfl rfl rfl rfl rfl rfl ?_ | refine Ops.neB rfl rfl rfl rfl rfl rfl ?_ | (apply Ops.ldB rfl rfl rfl rfl rfl; assumption; rfl)))
          refine Ops.callS rfl rfl rfl rfl rfl (atMax_c hG2 i (by omega) (by have := hT.len; omega)) ?_
          (repeat (first | with_reducible refine W.seq ?_ | with_reducible refine Ops.nil ?_ | with_reducible refine W.region ?_ | refine Ops.pu rfl rfl rfl ?_ | refine Ops.ar rfl rfl rfl (by omega) ?_ | refine Ops.yes rfl rfl rfl ?_ | refine Ops.no rfl rfl rfl rfl rfl ?_ | refine Ops.nu rfl rfl rfl rfl ?_ | with_reducible refine W.skip ?_ | with_reducible refine W.endb ?_ | with_reducible refine W.block ?_ | refine W.exit rfl ?_ | refine Ops.len rfl rfl rfl rfl rfl ?_ | refine Ops.flp rfl rfl rfl rfl rfl ?_ | refine Ops.max rfl rfl rfl rfl rfl ?_ | refine Ops.min rfl rfl rfl rfl rfl ?_ | refine Ops.eqB rfl rfl rfl rfl rfl rfl ?_ | refine Ops.neB rfl rfl rfl rfl rfl rfl ?_ | (apply Ops.ldB rfl rfl rfl rfl rfl; assumption; rfl)))
          refine W.cond rfl (fun hev => ?_) (fun hev => ?_)
          · simp only [hev, if_true] at hq1 hq2 hq3
            (repeat (first | with_reducible refine W.seq ?_ | with_reducible refine Ops.nil ?_ | with_reducible refine W.region ?_ | refine Ops.pu rfl rfl rfl ?_ | refine Ops.ar rfl rfl rfl (by omega) ?_ | refine Ops.yes rfl rfl rfl ?_ | refine Ops.no rfl rfl rfl rfl rfl ?_ | refine Ops.nu rfl rfl rfl rfl ?_ | with_reducible refine W.skip ?_ | with_reducible refine W.endb ?_ | with_reducible refine W.block ?_ | refine W.exit rfl ?_ | refine Ops.len rfl rfl rfl rfl rfl ?_ | refine Ops.flp rfl rfl rfl rfl rfl ?_ | refine Ops.max rfl rfl rfl rfl rfl ?_ | refine Ops.min rfl rfl rfl rfl rfl ?_ | refine Ops.eqB rfl rfl rfl rfl rfl rfl ?_ | refine Ops.neB rfl rfl rfl rfl rfl rfl ?_ | (apply Ops.ldB rfl rfl rfl rfl rfl; assumption; rfl)))
            refine W.cond rfl (fun hge => ?_) (fun hge => ?_)
            · have hge' : hi' ≤ max lo' X.1 := by simpa using hge
              rw [if_pos hge'] at hq1 hq2 hq3
              (repeat (first | with_reducible refine W.seq ?_ | with_reducible refine Ops.nil ?_ | with_reducible refine W.region ?_ | refine Ops.pu rfl rfl rfl ?_ | refine Ops.ar rfl rfl rfl (by omega) ?_ | refine Ops.yes rfl rfl rfl ?_ | refine Ops.no rfl rfl rfl rfl rfl ?_ | refine Ops.nu rfl rfl rfl rfl ?_ | with_reducible refine W.skip ?_ | with_reducible refine W.endb ?_ | with_reducible refine W.block ?_ | refine W.exit rfl ?_ | refine Ops.len rfl rfl rfl rfl rfl ?_ | refine Ops.flp rfl rfl rfl rfl rfl ?_ | refine Ops.max rfl rfl rfl rfl rfl ?_ | refine Ops.min rfl rfl rfl rfl rfl ?_ | refine Ops.eqB rfl rfl rfl rfl rfl rfl ?_ | refine Ops.neB rfl rfl rfl rfl rfl rfl ?_ | (apply Ops.ldB rfl rfl rfl rfl rfl; assumption; rfl)))
              refine W.endl ⟨_, ⟨rfl, by rw [← hq3]; exact hS2⟩, by rw [← hq1, ← hq2]; exact (by repeat (first | exact trivial | refine And.intro rfl ?_))⟩
            · have hge' : ¬ hi' ≤ max lo' X.1 := by simpa using hge
              rw [if_neg hge'] at hq1 hq2 hq3
              (repeat (first | with_reducible refine W.seq ?_ | with_reducible refine Ops.nil ?_ | with_reducible refine W.region ?_ | refine Ops.pu rfl rfl rfl ?_ | refine Ops.ar rfl rfl rfl (by omega) ?_ | refine Ops.yes rfl rfl rfl ?_ | refine Ops.no rfl rfl rfl rfl rfl ?_ | refine Ops.nu rfl rfl rfl rfl ?_ | with_reducible refine W.skip ?_ | with_reducible refine W.endb ?_ | with_reducible refine W.block ?_ | refine W.exit rfl ?_ | refine Ops.len rfl rfl rfl rfl rfl ?_ | refine Ops.flp rfl rfl rfl rfl rfl ?_ | refine Ops.max rfl rfl rfl rfl rfl ?_ | refine Ops.min rfl rfl rfl rfl rfl ?_ | refine Ops.eqB rfl rfl rfl rfl rfl rfl ?_ | refine Ops.neB rfl rfl rfl rfl rfl rfl ?_ | (apply Ops.ldB rfl rfl rfl rfl rfl; assumption; rfl)))
              refine W.endl ⟨_, _, ⟨⟨t + 1, _, _, _, rfl, by omega, rfl, hS2, by rw [hev]; exact hq1, by rw [hev]; exact hq2, by rw [hev]; simpa using hq3⟩, by omega⟩, (by repeat (first | exact trivial | refine And.intro rfl ?_))⟩
          · simp only [hev, Bool.false_eq_true, if_false] at hq1 hq2 hq3
            (repeat (first | with_reducible refine W.seq ?_ | with_reducible refine Ops.nil ?_ | with_reducible refine W.region ?_ | refine Ops.pu rfl rfl rfl ?_ | refine Ops.ar rfl rfl rfl (by omega) ?_ | refine Ops.yes rfl rfl rfl ?_ | refine Ops.no rfl rfl rfl rfl rfl ?_ | refine Ops.nu rfl rfl rfl rfl ?_ | with_reducible refine W.skip ?_ | with_reducible refine W.endb ?_ | with_reducible refine W.block ?_ | refine W.exit rfl ?_ | refine Ops.len rfl rfl rfl rfl rfl ?_ | refine Ops.flp rfl rfl rfl rfl rfl ?_ | refine Ops.max rfl rfl rfl rfl rfl ?_ | refine Ops.min rfl rfl rfl rfl rfl ?_ | refine Ops.eqB rfl rfl rfl rfl rfl rfl ?_ | refine Ops.neB rfl rfl rfl rfl rfl rfl ?_ | (apply Ops.ldB rfl rfl rfl rfl rfl; assumption; rfl)))
            refine W.cond rfl (fun hge => ?_) (fun hge => ?_)
            · have hge' : min hi' X.1 ≤ lo' := by simpa using hge
              rw [if_pos hge'] at hq1 hq2 hq3
              (repeat (first | with_reducible refine W.seq ?_ | with_reducible refine Ops.nil ?_ | with_reducible refine W.region ?_ | refine Ops.pu rfl rfl rfl ?_ | refine Ops.ar rfl rfl rfl (by omega) ?_ | refine Ops.yes rfl rfl rfl ?_ | refine Ops.no rfl rfl rfl rfl rfl ?_ | refine Ops.nu rfl rfl rfl rfl ?_ | with_reducible refine W.skip ?_ | with_reducible refine W.endb ?_ | with_reducible refine W.block ?_ | refine W.exit rfl ?_ | refine Ops.len rfl rfl rfl rfl rfl ?_ | refine Ops.flp rfl rfl rfl rfl rfl ?_ | refine Ops.max rfl rfl rfl rfl rfl ?_ | refine Ops.min rfl rfl rfl rfl rfl ?_ | refine Ops.eqB rfl rfl rfl rfl rfl rfl ?_ | refine Ops.neB rfl rfl rfl rfl rfl rfl ?_ | (apply Ops.ldB rfl rfl rfl rfl rfl; assumption; rfl)))
              refine W.endl ⟨_, ⟨rfl, by rw [← hq3]; exact hS2⟩, by rw [← hq1, ← hq2]; exact (by repeat (first | exact trivial | refine And.intro rfl ?_))⟩
            · have hge' : ¬ min hi' X.1 ≤ lo' := by simpa using hge
              rw [if_neg hge'] at hq1 hq2 hq3
              (repeat (first | with_reducible refine W.seq ?_ | with_reducible refine Ops.nil ?_ | with_reducible refine W.region ?_ | refine Ops.pu rfl rfl rfl ?_ | refine Ops.ar rfl rfl rfl (by omega) ?_ | refine Ops.yes rfl rfl rfl ?_ | refine Ops.no rfl rfl rfl rfl rfl ?_ | refine Ops.nu rfl rfl rfl rfl ?_ | with_reducible refine W.skip ?_ | with_reducible refine W.endb ?_ | with_reducible refine W.block ?_ | refine W.exit rfl ?_ | refine Ops.len rfl rfl rfl rfl rfl ?_ | refine Ops.flp rfl rfl rfl rfl rfl ?_ | refine Ops.max rfl rfl rfl rfl rfl ?_ | refine Ops.min rfl rfl rfl rfl rfl ?_ | refine Ops.eqB rfl rfl rfl rfl rfl rfl ?_ | refine Ops.neB rfl rfl rfl rfl rfl rfl ?_ | (apply Ops.ldB rfl rfl rfl rfl rfl; assumption; rfl)))
              refine W.endl ⟨_, _, ⟨⟨t + 1, _, _, _, rfl, by omega, rfl, hS2, by rw [hev]; exact hq1, by rw [hev]; exact hq2, by rw [hev]; simpa using hq3⟩, by omega⟩, (by repeat (first | exact trivial | refine And.intro rfl ?_))⟩
        · have hlt : t = (kid l i).length := by simp at hc; omega
          subst hlt
          rw [List.drop_length] at hq1 hq2 hq3
          simp only [kidsS, List.append_nil] at hq1 hq2 hq3
          (repeat (first | with_reducible refine W.seq ?_ | with_reducible refine Ops.nil ?_ | with_reducible refine W.region ?_ | refine Ops.pu rfl rfl rfl ?_ | refine Ops.ar rfl rfl rfl (by omega) ?_ | refine Ops.yes rfl rfl rfl ?_ | refine Ops.no rfl rfl rfl rfl rfl ?_ | refine Ops.nu rfl rfl rfl rfl ?_ | with_reducible refine W.skip ?_ | with_reducible refine W.endb ?_ | with_reducible refine W.block ?_ | refine W.exit rfl ?_ | refine Ops.len rfl rfl rfl rfl rfl ?_ | refine Ops.flp rfl rfl rfl rfl rfl ?_ | refine Ops.max rfl rfl rfl rfl rfl ?_ | refine Ops.min rfl rfl rfl rfl rfl ?_ | refine Ops.eqB rfl rfl rfl rfl rfl rfl ?_ | refine Ops.neB rfl rfl rfl rfl rfl rfl ?_ | (apply Ops.ldB rfl rfl rfl rfl rfl; assumption; rfl)))
          exact W.endl ⟨_, ⟨rfl, by rw [← hq3]; exact hS1⟩, by rw [← hq1, ← hq2]; exact (by repeat (first | exact trivial | refine And.intro rfl ?_))⟩
      · rintro ρ w1 ⟨rfl, hS1⟩
        have hG1 := hG.below hS1.bel
        have hBG1 := hBG.kp (Kp.of_below (S := fun _ => False) hS1.bel) (fun e => e)
        (repeat (first | with_reducible refine W.seq ?_ | with_reducible refine Ops.nil ?_ | with_reducible refine W.region ?_ | refine Ops.pu rfl rfl rfl ?_ | refine Ops.ar rfl rfl rfl (by omega) ?_ | refine Ops.yes rfl rfl rfl ?_ | refine Ops.no rfl rfl rfl rfl rfl ?_ | refine Ops.nu rfl rfl rfl rfl ?_ | with_reducible refine W.skip ?_ | with_reducible refine W.endb ?_ | with_reducible refine W.block ?_ | refine W.exit rfl ?_ | refine Ops.len rfl rfl rfl rfl rfl ?_ | refine Ops.flp rfl rfl rfl rfl rfl ?_ | refine Ops.max rfl rfl rfl rfl rfl ?_ | refine Ops.min rfl rfl rfl rfl rfl ?_ | refine Ops.eqB rfl rfl rfl rfl rfl rfl ?_ | refine Ops.neB rfl rfl rfl rfl rfl rfl ?_ | (apply Ops.ldB rfl rfl rfl rfl rfl; assumption; rfl)))
        refine Ops.callS rfl rfl rfl rfl rfl (atMax_c hG1 i (by omega) (by have := hT.len; omega)) ?_
        (repeat (first | with_reducible refine W.seq ?_ | with_reducible refine Ops.nil ?_ | with_reducible refine W.region ?_ | refine Ops.pu rfl rfl rfl ?_ | refine Ops.ar rfl rfl rfl (by omega) ?_ | refine Ops.yes rfl rfl rfl ?_ | refine Ops.no rfl rfl rfl rfl rfl ?_ | refine Ops.nu rfl rfl rfl rfl ?_ | with_reducible refine W.skip ?_ | with_reducible refine W.endb ?_ | with_reducible refine W.block ?_ | refine W.exit rfl ?_ | refine Ops.len rfl rfl rfl rfl rfl ?_ | refine Ops.flp rfl rfl rfl rfl rfl ?_ | refine Ops.max rfl rfl rfl rfl rfl ?_ | refine Ops.min rfl rfl rfl rfl rfl ?_ | refine Ops.eqB rfl rfl rfl rfl rfl rfl ?_ | refine Ops.neB rfl rfl rfl rfl rfl rfl ?_ | (apply Ops.ldB rfl rfl rfl rfl rfl; assumption; rfl)))
        refine W.cond rfl (fun hev => ?_) (fun hev => ?_)
        · (repeat (first | with_reducible refine W.seq ?_ | with_reducible refine Ops.nil ?_ | with_reducible refine W.region ?_ | refine Ops.pu rfl rfl rfl ?_ | refine Ops.ar rfl rfl rfl (by omega) ?_ | refine Ops.yes rfl rfl rfl ?_ | refine Ops.no rfl rfl rfl rfl rfl ?_ | refine Ops.nu rfl rfl rfl rfl ?_ | with_reducible refine W.skip ?_ | with_reducible refine W.endb ?_ | with_reducible refine W.block ?_ | refine W.exit rfl ?_ | refine Ops.len rfl rfl rfl rfl rfl ?_ | refine Ops.flp rfl rfl rfl rfl rfl ?_ | refine Ops.max rfl rfl rfl rfl rfl ?_ | refine Ops.min rfl rfl rfl rfl rfl ?_ | refine Ops.eqB rfl rfl rfl rfl rfl rfl ?_ | refine Ops.neB rfl rfl rfl rfl rfl rfl ?_ | (apply Ops.ldB rfl rfl rfl rfl rfl; assumption; rfl)))
          exact W.fret rfl ⟨by rw [hev]; rfl, hS1⟩
        · (repeat (first | with_reducible refine W.seq ?_ | with_reducible refine Ops.nil ?_ | with_reducible refine W.region ?_ | refine Ops.pu rfl rfl rfl ?_ | refine Ops.ar rfl rfl rfl (by omega) ?_ | refine Ops.yes rfl rfl rfl ?_ | refine Ops.no rfl rfl rfl rfl rfl ?_ | refine Ops.nu rfl rfl rfl rfl ?_ | with_reducible refine W.skip ?_ | with_reducible refine W.endb ?_ | with_reducible refine W.block ?_ | refine W.exit rfl ?_ | refine Ops.len rfl rfl rfl rfl rfl ?_ | refine Ops.flp rfl rfl rfl rfl rfl ?_ | refine Ops.max rfl rfl rfl rfl rfl ?_ | refine Ops.min rfl rfl rfl rfl rfl ?_ | refine Ops.eqB rfl rfl rfl rfl rfl rfl ?_ | refine Ops.neB rfl rfl rfl rfl rfl rfl ?_ | (apply Ops.ldB rfl rfl rfl rfl rfl; assumption; rfl)))
          exact W.fret rfl ⟨by rw [hev]; rfl, hS1⟩
end Go.Proofs.Ytdiljpnfochndaa
namespace Go.Proofs.Ytdiljpnfochndaa
open Go Go.RowKit Go.Proofs.Ytdiljpnfochndaa.VW
open Go.Proofs.Ytdiljpnfochndaa.HP (Nd kid wor leafB rd evB TF far GoodE gameOf gameOf_TF kidsS srS srS_good kids_good)
attribute [local irreducible] W Ops
def SearchR (l : List Nd) (w w' : World) (r : Value) : Prop := (gameOf l).elim (r = .tuple #[.int .i64 0, .slice none 0 0, .int .i64 2]) fun dep => ∃ v, r = .tuple #[.int .i64 (srS l dep l.length 0 (-far) far).1, v, .int .i64 0] ∧ FInv w w' v (srS l dep l.length 0 (-far) far).2
theorem search_c {w : World} {v : Value} {l : List Nd} (hT : TreeM w v l) (hl : l.length ≤ 9223372036854775807) :
    Calls Try.prog 38 #[v] w (Ret fun r w' => Below w.heap.size w w' ∧ SearchR l w w' r) := by
  refine calls_W (vs := [_]) Try.func38 rfl (by kernel_rfl) rfl ?_
  (repeat (first | with_reducible refine W.seq ?_ | with_reducible refine Ops.nil ?_ | with_reducible refine W.region ?_ | refine Ops.pu rfl rfl rfl ?_ | refine Ops.ar rfl rfl rfl (by omega) ?_ | refine Ops.yes rfl rfl rfl ?_ | refine Ops.no rfl rfl rfl rfl rfl ?_ | refine Ops.nu rfl rfl rfl rfl ?_ | with_reducible refine W.skip ?_ | with_reducible refine W.endb ?_ | with_reducible refine W.block ?_ | refine W.exit rfl ?_ | refine Ops.len rfl rfl rfl rfl rfl ?_ | refine Ops.flp rfl rfl rfl rfl rfl ?_ | refine Ops.max rfl rfl rfl rfl rfl ?_ | refine Ops.min rfl rfl rfl rfl rfl ?_ | refine Ops.eqB rfl rfl rfl rfl rfl rfl ?_ | refine Ops.neB rfl rfl rfl rfl rfl rfl ?_ | (apply Ops.ldB rfl rfl rfl rfl rfl; assumption; rfl)))
  refine Ops.box rfl rfl rfl rfl (fun w1 bt hM1 => ?_)
  have hb1 : Below w.heap.size w w1 := hM1.kp.below (Nat.le_refl _) (fun _ _ e => e)
  have hBT1 : Blk w1 bt #[v] 22 := by obtain ⟨A, c, rfl⟩ := hT.sl; exact hM1.at_
  (repeat (first | with_reducible refine W.seq ?_ | with_reducible refine Ops.nil ?_ | with_reducible refine W.region ?_ | refine Ops.pu rfl rfl rfl ?_ | refine Ops.ar rfl rfl rfl (by omega) ?_ | refine Ops.yes rfl rfl rfl ?_ | refine Ops.no rfl rfl rfl rfl rfl ?_ | refine Ops.nu rfl rfl rfl rfl ?_ | with_reducible refine W.skip ?_ | with_reducible refine W.endb ?_ | with_reducible refine W.block ?_ | refine W.exit rfl ?_ | refine Ops.len rfl rfl rfl rfl rfl ?_ | refine Ops.flp rfl rfl rfl rfl rfl ?_ | refine Ops.max rfl rfl rfl rfl rfl ?_ | refine Ops.min rfl rfl rfl rfl rfl ?_ | refine Ops.eqB rfl rfl rfl rfl rfl rfl ?_ | refine Ops.neB rfl rfl rfl rfl rfl rfl ?_ | (apply Ops.ldB rfl rfl rfl rfl rfl; assumption; rfl)))
  refine Ops.call rfl rfl rfl rfl rfl (newGame_c (hT.below hb1) hl) (fun r w2 hR => ?_)
  obtain ⟨hb2, hR⟩ := hR
  have hBT2 := hBT1.kp (Kp.of_below (S := fun _ => False) hb2) (fun e => e)
  have hb02 := hb1.trans (hb2.mono hb1.size)
  cases hg : gameOf l with
  | none =>
    rw [hg] at hR
    obtain ⟨p, hp1, rfl⟩ := hR
    (repeat (first | with_reducible refine W.seq ?_ | with_reducible refine Ops.nil ?_ | with_reducible refine W.region ?_ | refine Ops.pu rfl rfl rfl ?_ | refine Ops.ar rfl rfl rfl (by omega) ?_ | refine Ops.yes rfl rfl rfl ?_ | refine Ops.no rfl rfl rfl rfl rfl ?_ | refine Ops.nu rfl rfl rfl rfl ?_ | with_reducible refine W.skip ?_ | with_reducible refine W.endb ?_ | with_reducible refine W.block ?_ | refine W.exit rfl ?_ | refine Ops.len rfl rfl rfl rfl rfl ?_ | refine Ops.flp rfl rfl rfl rfl rfl ?_ | refine Ops.max rfl rfl rfl rfl rfl ?_ | refine Ops.min rfl rfl rfl rfl rfl ?_ | refine Ops.eqB rfl rfl rfl rfl rfl rfl ?_ | refine Ops.neB rfl rfl rfl rfl rfl rfl ?_ | (apply Ops.ldB rfl rfl rfl rfl rfl; assumption; rfl)))
    refine Ops.alloc rfl rfl rfl rfl (fun w3 g6 hM3 => ?_)
    refine Ops.st rfl rfl rfl rfl rfl rfl hp1 hM3.at_ (by decide) (fun w4 hu => ?_)
    have k4 := hM3.kp.trans hu.kp
    have hb04 : Below w.heap.size w w4 := Below.at_ hb02 k4 (fun i hi => by rcases hi with hi | hi; exact hi.elim; have := hM3.r_eq; have := hb02.size; omega)
    (repeat (first | with_reducible refine W.seq ?_ | with_reducible refine Ops.nil ?_ | with_reducible refine W.region ?_ | refine Ops.pu rfl rfl rfl ?_ | refine Ops.ar rfl rfl rfl (by omega) ?_ | refine Ops.yes rfl rfl rfl ?_ | refine Ops.no rfl rfl rfl rfl rfl ?_ | refine Ops.nu rfl rfl rfl rfl ?_ | with_reducible refine W.skip ?_ | with_reducible refine W.endb ?_ | with_reducible refine W.block ?_ | refine W.exit rfl ?_ | refine Ops.len rfl rfl rfl rfl rfl ?_ | refine Ops.flp rfl rfl rfl rfl rfl ?_ | refine Ops.max rfl rfl rfl rfl rfl ?_ | refine Ops.min rfl rfl rfl rfl rfl ?_ | refine Ops.eqB rfl rfl rfl rfl rfl rfl ?_ | refine Ops.neB rfl rfl rfl rfl rfl rfl ?_ | (apply Ops.ldB rfl rfl rfl rfl rfl; assumption; rfl)))
    refine W.cond rfl (fun hc => ?_) (fun hc => ?_)
    · (repeat (first | with_reducible refine W.seq ?_ | with_reducible refine Ops.nil ?_ | with_reducible refine W.region ?_ | refine Ops.pu rfl rfl rfl ?_ | refine Ops.ar rfl rfl rfl (by omega) ?_ | refine Ops.yes rfl rfl rfl ?_ | refine Ops.no rfl rfl rfl rfl rfl ?_ | refine Ops.nu rfl rfl rfl rfl ?_ | with_reducible refine W.skip ?_ | with_reducible refine W.endb ?_ | with_reducible refine W.block ?_ | refine W.exit rfl ?_ | refine Ops.len rfl rfl rfl rfl rfl ?_ | refine Ops.flp rfl rfl rfl rfl rfl ?_ | refine Ops.max rfl rfl rfl rfl rfl ?_ | refine Ops.min rfl rfl rfl rfl rfl ?_ | refine Ops.eqB rfl rfl rfl rfl rfl rfl ?_ | refine Ops.neB rfl rfl rfl rfl rfl rfl ?_ | (apply Ops.ldB rfl rfl rfl rfl rfl; assumption; rfl)))
      exact W.fret rfl ⟨hb04, by simp only [SearchR, hg]; rfl⟩
    · simp at hc
  | some dep =>
    rw [hg] at hR
    obtain ⟨g, rfl, hgs, hG⟩ := hR
    have hT2 := gameOf_TF hg
    have hn1 := hT2.n1
    have hn60 := hT2.n60
    (repeat (first | with_reducible refine W.seq ?_ | with_reducible refine Ops.nil ?_ | with_reducible refine W.region ?_ | refine Ops.pu rfl rfl rfl ?_ | refine Ops.ar rfl rfl rfl (by omega) ?_ | refine Ops.yes rfl rfl rfl ?_ | refine Ops.no rfl rfl rfl rfl rfl ?_ | refine Ops.nu rfl rfl rfl rfl ?_ | with_reducible refine W.skip ?_ | with_reducible refine W.endb ?_ | with_reducible refine W.block ?_ | refine W.exit rfl ?_ | refine Ops.len rfl rfl rfl rfl rfl ?_ | refine Ops.flp rfl rfl rfl rfl rfl ?_ | refine Ops.max rfl rfl rfl rfl rfl ?_ | refine Ops.min rfl rfl rfl rfl rfl ?_ | refine Ops.eqB rfl rfl rfl rfl rfl rfl ?_ | refine Ops.neB rfl rfl rfl rfl rfl rfl ?_ | (apply Ops.ldB rfl rfl rfl rfl rfl; assumption; rfl)))
    refine Ops.alloc rfl rfl rfl rfl (fun w3 bg hM3 => ?_)
    refine Ops.st rfl rfl rfl rfl rfl rfl rfl hM3.at_ (by decide) (fun w4 hu => ?_)
    have k4 := hM3.kp.trans hu.kp
    have hb24 : Below w2.heap.size w2 w4 := Below.at_ (Below.refl _ _) k4 (fun i hi => by rcases hi with hi | hi; exact hi.elim; have := hM3.r_eq; omega)
    have hb04 : Below w.heap.size w w4 := hb02.trans (hb24.mono hb02.size)
    have hG4 := hG.below hb24
    have hGB4 : Blk w4 bg #[.pointer (some ⟨g, 0, none⟩)] 69 := hu.blk
    have hBT4 := hBT2.kp (Kp.of_below (S := fun _ => False) hb24) (fun e => e)
    (repeat (first | with_reducible refine W.seq ?_ | with_reducible refine Ops.nil ?_ | with_reducible refine W.region ?_ | refine Ops.pu rfl rfl rfl ?_ | refine Ops.ar rfl rfl rfl (by omega) ?_ | refine Ops.yes rfl rfl rfl ?_ | refine Ops.no rfl rfl rfl rfl rfl ?_ | refine Ops.nu rfl rfl rfl rfl ?_ | with_reducible refine W.skip ?_ | with_reducible refine W.endb ?_ | with_reducible refine W.block ?_ | refine W.exit rfl ?_ | refine Ops.len rfl rfl rfl rfl rfl ?_ | refine Ops.flp rfl rfl rfl rfl rfl ?_ | refine Ops.max rfl rfl rfl rfl rfl ?_ | refine Ops.min rfl rfl rfl rfl rfl ?_ | refine Ops.eqB rfl rfl rfl rfl rfl rfl ?_ | refine Ops.neB rfl rfl rfl rfl rfl rfl ?_ | (apply Ops.ldB rfl rfl rfl rfl rfl; assumption; rfl)))
    refine W.cond rfl (fun hc => ?_) (fun hc => ?_)
    · simp at hc
    · (repeat (first | with_reducible refine W.seq ?_ | with_reducible refine Ops.nil ?_ | with_reducible refine W.region ?_ | refine Ops.pu rfl rfl rfl ?_ | refine Ops.ar rfl rfl rfl (by omega) ?_ | refine Ops.yes rfl rfl rfl ?_ | refine Ops.no rfl rfl rfl rfl rfl ?_ | refine Ops.nu rfl rfl rfl rfl ?_ | with_reducible refine W.skip ?_ | with_reducible refine W.endb ?_ | with_reducible refine W.block ?_ | refine W.exit rfl ?_ | refine Ops.len rfl rfl rfl rfl rfl ?_ | refine Ops.flp rfl rfl rfl rfl rfl ?_ | refine Ops.max rfl rfl rfl rfl rfl ?_ | refine Ops.min rfl rfl rfl rfl rfl ?_ | refine Ops.eqB rfl rfl rfl rfl rfl rfl ?_ | refine Ops.neB rfl rfl rfl rfl rfl rfl ?_ | (apply Ops.ldB rfl rfl rfl rfl rfl; assumption; rfl)))
      refine Ops.alloc rfl rfl rfl rfl (fun w5 bv hM5 => ?_)
      (repeat (first | with_reducible refine W.seq ?_ | with_reducible refine Ops.nil ?_ | with_reducible refine W.region ?_ | refine Ops.pu rfl rfl rfl ?_ | refine Ops.ar rfl rfl rfl (by omega) ?_ | refine Ops.yes rfl rfl rfl ?_ | refine Ops.no rfl rfl rfl rfl rfl ?_ | refine Ops.nu rfl rfl rfl rfl ?_ | with_reducible refine W.skip ?_ | with_reducible refine W.endb ?_ | with_reducible refine W.block ?_ | refine W.exit rfl ?_ | refine Ops.len rfl rfl rfl rfl rfl ?_ | refine Ops.flp rfl rfl rfl rfl rfl ?_ | refine Ops.max rfl rfl rfl rfl rfl ?_ | refine Ops.min rfl rfl rfl rfl rfl ?_ | refine Ops.eqB rfl rfl rfl rfl rfl rfl ?_ | refine Ops.neB rfl rfl rfl rfl rfl rfl ?_ | (apply Ops.ldB rfl rfl rfl rfl rfl; assumption; rfl)))
      refine Ops.alloc rfl rfl rfl rfl (fun w6 bs hM6 => ?_)
      (repeat (first | with_reducible refine W.seq ?_ | with_reducible refine Ops.nil ?_ | with_reducible refine W.region ?_ | refine Ops.pu rfl rfl rfl ?_ | refine Ops.ar rfl rfl rfl (by omega) ?_ | refine Ops.yes rfl rfl rfl ?_ | refine Ops.no rfl rfl rfl rfl rfl ?_ | refine Ops.nu rfl rfl rfl rfl ?_ | with_reducible refine W.skip ?_ | with_reducible refine W.endb ?_ | with_reducible refine W.block ?_ | refine W.exit rfl ?_ | refine Ops.len rfl rfl rfl rfl rfl ?_ | refine Ops.flp rfl rfl rfl rfl rfl ?_ | refine Ops.max rfl rfl rfl rfl rfl ?_ | refine Ops.min rfl rfl rfl rfl rfl ?_ | refine Ops.eqB rfl rfl rfl rfl rfl rfl ?_ | refine Ops.neB rfl rfl rfl rfl rfl rfl ?_ | (apply Ops.ldB rfl rfl rfl rfl rfl; assumption; rfl)))
      refine Ops.st rfl rfl rfl rfl rfl rfl rfl hM6.at_ (by decide) (fun w7 hu7 => ?_)
      have e5 := hM5.r_eq
      have e6 := hM6.r_eq
      have e7 := hM5.size
      have hk7 := (hM5.kp.trans hM6.kp).trans hu7.kp
      have hS7 : SInv w4 bg bv bt bs [] w7 := by
        refine ⟨Below.at_ (Below.refl _ _) hk7 (fun i hi => by rcases hi with (hi | hi) | hi; exact hi.elim; exact hi.elim; omega), hu7.blk, .slice none 0 0, Blk.kp (Blk.kp hM5.at_ hM6.kp (fun e => e)) hu7.kp (fun e => by omega), World.ownsRow_nil _ 0 3 1, fun k hk => by simp [Value.ownBlock] at hk⟩
      have hself := hS7.self
      (repeat (first | with_reducible refine W.seq ?_ | with_reducible refine Ops.nil ?_ | with_reducible refine W.region ?_ | refine Ops.pu rfl rfl rfl ?_ | refine Ops.ar rfl rfl rfl (by omega) ?_ | refine Ops.yes rfl rfl rfl ?_ | refine Ops.no rfl rfl rfl rfl rfl ?_ | refine Ops.nu rfl rfl rfl rfl ?_ | with_reducible refine W.skip ?_ | with_reducible refine W.endb ?_ | with_reducible refine W.block ?_ | refine W.exit rfl ?_ | refine Ops.len rfl rfl rfl rfl rfl ?_ | refine Ops.flp rfl rfl rfl rfl rfl ?_ | refine Ops.max rfl rfl rfl rfl rfl ?_ | refine Ops.min rfl rfl rfl rfl rfl ?_ | refine Ops.eqB rfl rfl rfl rfl rfl rfl ?_ | refine Ops.neB rfl rfl rfl rfl rfl rfl ?_ | (apply Ops.ldB rfl rfl rfl rfl rfl; assumption; rfl)))
      refine Ops.call rfl rfl rfl rfl rfl (srch_c hG4 hT2 (hT.below hb04) hGB4 hBT4 (by omega) (by omega) (by omega) l.length 0 (-far) far [] w7 (by omega) (by omega) (by simp; omega) hS7) (fun r w8 hR => ?_)
      obtain ⟨rfl, hS8⟩ := hR
      rw [List.nil_append] at hS8
      (repeat (first | with_reducible refine W.seq ?_ | with_reducible refine Ops.nil ?_ | with_reducible refine W.region ?_ | refine Ops.pu rfl rfl rfl ?_ | refine Ops.ar rfl rfl rfl (by omega) ?_ | refine Ops.yes rfl rfl rfl ?_ | refine Ops.no rfl rfl rfl rfl rfl ?_ | refine Ops.nu rfl rfl rfl rfl ?_ | with_reducible refine W.skip ?_ | with_reducible refine W.endb ?_ | with_reducible refine W.block ?_ | refine W.exit rfl ?_ | refine Ops.len rfl rfl rfl rfl rfl ?_ | refine Ops.flp rfl rfl rfl rfl rfl ?_ | refine Ops.max rfl rfl rfl rfl rfl ?_ | refine Ops.min rfl rfl rfl rfl rfl ?_ | refine Ops.eqB rfl rfl rfl rfl rfl rfl ?_ | refine Ops.neB rfl rfl rfl rfl rfl rfl ?_ | (apply Ops.ldB rfl rfl rfl rfl rfl; assumption; rfl)))
      refine W.still' rfl (by kernel_rfl) (fun w9 k9 _ => ?_)
      obtain ⟨lv, hBV, hown, hge⟩ := hS8.vis
      have hBV9 := hBV.kp k9 (fun e => e)
      have hown9 := own_kp hown k9 (fun _ _ e => e)
      have hb9 : Below w.heap.size w w9 := hb04.trans ((Below.at_ hS8.bel k9 (fun _ e => e.elim)).mono hb04.size)
      (repeat (first | with_reducible refine W.seq ?_ | with_reducible refine Ops.nil ?_ | with_reducible refine W.region ?_ | refine Ops.pu rfl rfl rfl ?_ | refine Ops.ar rfl rfl rfl (by omega) ?_ | refine Ops.yes rfl rfl rfl ?_ | refine Ops.no rfl rfl rfl rfl rfl ?_ | refine Ops.nu rfl rfl rfl rfl ?_ | with_reducible refine W.skip ?_ | with_reducible refine W.endb ?_ | with_reducible refine W.block ?_ | refine W.exit rfl ?_ | refine Ops.len rfl rfl rfl rfl rfl ?_ | refine Ops.flp rfl rfl rfl rfl rfl ?_ | refine Ops.max rfl rfl rfl rfl rfl ?_ | refine Ops.min rfl rfl rfl rfl rfl ?_ | refine Ops.eqB rfl rfl rfl rfl rfl rfl ?_ | refine Ops.neB rfl rfl rfl rfl rfl rfl ?_ | (apply Ops.ldB rfl rfl rfl rfl rfl; assumption; rfl)))
      refine Ops.nilS rfl ?_
      (repeat (first | with_reducible refine W.seq ?_ | with_reducible refine Ops.nil ?_ | with_reducible refine W.region ?_ | refine Ops.pu rfl rfl rfl ?_ | refine Ops.ar rfl rfl rfl (by omega) ?_ | refine Ops.yes rfl rfl rfl ?_ | refine Ops.no rfl rfl rfl rfl rfl ?_ | refine Ops.nu rfl rfl rfl rfl ?_ | with_reducible refine W.skip ?_ | with_reducible refine W.endb ?_ | with_reducible refine W.block ?_ | refine W.exit rfl ?_ | refine Ops.len rfl rfl rfl rfl rfl ?_ | refine Ops.flp rfl rfl rfl rfl rfl ?_ | refine Ops.max rfl rfl rfl rfl rfl ?_ | refine Ops.min rfl rfl rfl rfl rfl ?_ | refine Ops.eqB rfl rfl rfl rfl rfl rfl ?_ | refine Ops.neB rfl rfl rfl rfl rfl rfl ?_ | (apply Ops.ldB rfl rfl rfl rfl rfl; assumption; rfl)))
      refine W.fret rfl ⟨hb9, ?_⟩
      simp only [SearchR, hg]
      exact ⟨lv, rfl, hb9, hown9, fun k hk => by have := (hge k hk).1; have := hb04.size; omega⟩
end Go.Proofs.Ytdiljpnfochndaa
/- Literals of any shape. -/
namespace Go.Proofs.Ytdiljpnfochndaa.VW
open Go Go.RowKit
def evP (ρ : E) : List (Nat × Operand) → Option (List (Nat × Value))
  | [] => some []
  | (i, x) :: r => match ev ρ x, evP ρ r with
    | some v, some vs => some ((i, v) :: vs)
    | _, _ => none
theorem evP_map {n : Nat} {a : Act} {ρ : E} (h : Rep n a ρ) : ∀ {l : List (Nat × Operand)} {vs : List (Nat × Value)}, evP ρ l = some vs → l.map (fun p => (p.1, a.eval p.2)) = vs
  | [], vs, e => by simp [evP] at e; simp [e]
  | (i, x) :: r, vs, e => by
    simp only [evP] at e
    split at e
    · rename_i v us h1 h2
      simp at e
      subst e
      simp [h.ev h1, evP_map h h2]
    · simp at e
section
variable {P : Program} [hT : Tab P] {n : Nat} {ds : List Deferred} {Φ : Post} {k : List It} {ρ : E} {w : World} {all : Array Oper} {l : List Oper} {md : Option (List Oper)}
/-- A struct's literal: two fields of one cell each. -/
theorem Ops.bldG {o : Oper} {d t : Nat} {parts : Array (Nat × Operand)} {vs : List (Nat × Value)} {z : Value} {cs : Array Value} (ho : o.op = .build t parts) (hd : o.dst = some d) (hg : o.guard = none)
    (ht : tyD P t = some (.struct [(0, 1), (1, 1)])) (hz : tyZ P t = some z) (hp : evP ρ parts.toList = some vs) (hf : Instr.fill (fun i => [((0 : Nat), (1 : Nat)), (1, 1)][i]?) z.cells vs = some cs)
    (hk : Ops md P n ds all k Φ l ((d, .agg cs) :: ρ) w) : Ops md P n ds all k Φ (o :: l) ρ w := by
  refine Ops.valS hd hg (fun a hr => ?_) hk
  obtain ⟨gs, hu, hm⟩ := td_struct (tyD_ok ht)
  have hsz : ∃ f g, gs = #[f, g] ∧ f.offset = 0 ∧ g.offset = 1 ∧ ((P.info? f.type).map (·.size)).getD 0 = 1 ∧ ((P.info? g.type).map (·.size)).getD 0 = 1 := by
    obtain ⟨L⟩ := gs
    rcases L with _ | ⟨f, _ | ⟨g, _ | ⟨h, r⟩⟩⟩
    · simp at hm
    · simp at hm
    · simp at hm; exact ⟨f, g, rfl, hm.1.1, hm.2.1, hm.1.2, hm.2.2⟩
    · simp at hm
  obtain ⟨f, g, rfl, hf0, hg1, hfs, hgs⟩ := hsz
  have q1 : ∃ i, P.info? f.type = some i ∧ i.size = 1 := by
    cases hi : P.info? f.type with
    | none => rw [hi] at hfs; simp at hfs
    | some i => rw [hi] at hfs; exact ⟨i, rfl, by simpa using hfs⟩
  have q2 : ∃ i, P.info? g.type = some i ∧ i.size = 1 := by
    cases hi : P.info? g.type with
    | none => rw [hi] at hgs; simp at hgs
    | some i => rw [hi] at hgs; exact ⟨i, rfl, by simpa using hgs⟩
  obtain ⟨i1, e1, s1⟩ := q1
  obtain ⟨i2, e2, s2⟩ := q2
  have hpm : (parts.map fun (i, x) => (i, a.eval x)).toList = vs := by rw [Array.toList_map]; exact evP_map hr hp
  have hb : (Instr.build t (parts.map fun (i, x) => (i, a.eval x))).run P w = .ok (.agg cs) w := by
    generalize (parts.map fun (i, x) => (i, a.eval x)) = ps at *
    subst hpm
    simp [Instr.build, run_zeroV hz, run_und hu, sizeOf, typeInfo, e1, e2, s1, s2, hf0, hg1, hf]
  simp [execOp, ho, hb]
/-- A slice's literal. -/
theorem Ops.bsG {o : Oper} {d t e sz m : Nat} {parts : Array (Nat × Operand)} {vs : List (Nat × Value)} {z : Value} {cs : Array Value} (ho : o.op = .buildSlice t m parts) (hd : o.dst = some d) (hg : o.guard = none)
    (ht : tyD P t = some (.slice e)) (hs : tyS P e = some sz) (hz : tyZ P e = some z) (hp : evP ρ parts.toList = some vs) (h0 : Nat.blt 0 (m * sz) = true) (h1 : Nat.ble (m * sz) 1000 = true)
    (hf : Instr.fill (fun i => some (i * sz, sz)) ((Array.range (m * sz)).map (fun q => z.cells[q % z.cells.size]!)) vs = some cs)
    (hk : ∀ w' r, Mk w w' r (.cells cs e) → Ops none P n ds all k Φ l ((d, .slice (some ⟨r, 0, none⟩) m m) :: ρ) w') : Ops none P n ds all k Φ (o :: l) ρ w := by
  refine Ops.val hd hg (fun a hr => ?_) (hk _ _ (mk_alloc w _))
  have h0' : 0 < m * sz := by simpa using h0
  have h1' : m * sz ≤ 1000 := by simpa using h1
  have hpm : (parts.map fun (i, x) => (i, a.eval x)).toList = vs := by rw [Array.toList_map]; exact evP_map hr hp
  have hb : (Instr.buildSlice t m (parts.map fun (i, x) => (i, a.eval x))).run P w = .ok (.slice (some ⟨w.heap.size, 0, none⟩) m m) (w.alloc (.cells cs e)) := by
    generalize (parts.map fun (i, x) => (i, a.eval x)) = ps at *
    subst hpm
    have hne : ¬ (m = 0 ∨ sz = 0) := by rintro (h | h) <;> subst h <;> simp at h0'
    simp [Instr.buildSlice, run_und (td_slice (tyD_ok ht)), run_sizeOf hs, run_zeroV hz, hf, newRow, newObj, Sem.run, hne, show ¬ (16777216 < m * sz) by omega]
    intro h
    omega
  simp [execOp, ho, hb]
end
end Go.Proofs.Ytdiljpnfochndaa.VW
namespace Go.Proofs.Ytdiljpnfochndaa
open Go Go.RowKit Go.Proofs.Ytdiljpnfochndaa.VW
open Go.Proofs.Ytdiljpnfochndaa.HP (Nd kid wor leafB rd evB TF far Ef GoodE gameOf gameOf_TF kidsS srS srS_good kids_good ValP NV NeedP NE)
attribute [local irreducible] W Ops
abbrev smp : List Nd := [([1, 2], 0), ([3, 4], 0), ([5, 6], 0), ([], 3), ([], 5), ([], 2), ([], 9)]
abbrev sdep : List Int := [0, 1, 1, 2, 2, 2, 2]
theorem smp_game : gameOf smp = some sdep := by decide
theorem smp_val {vs : List Int} (h : ValP smp sdep (wor smp) vs) : vs.getD 0 0 = 3 := by
  have h2 : ValP smp sdep (wor smp) [3, 3, 2, 3, 5, 2, 9] := ⟨rfl, by decide⟩
  rw [ValP.uniq (gameOf_TF smp_game) h h2]
  rfl
theorem smp_srch : srS smp sdep smp.length 0 (-far) far = (3, [3, 4, 5]) := by decide
theorem smp_proof {es : List Ef} (h : NeedP smp sdep true (proofF smp 3) es) : es.getD 0 (0, []) = (2, [3, 4]) := by
  have h2 : NeedP smp sdep true (proofF smp 3) [(2, [3, 4]), (2, [3, 4]), (far, [5, 6]), (1, [3]), (1, [4]), (far, [5]), (1, [6])] := ⟨rfl, by decide⟩
  rw [NeedP.uniq (gameOf_TF smp_game) h h2]
  rfl
theorem smp_num {z : Int} {mx : Bool} (h : NumR smp sdep [] 4 mx z) : z = 2 := by
  obtain ⟨es, h, rfl⟩ := h
  cases mx with
  | true =>
    have h2 : NeedP smp sdep true (numF smp [] 4 true) [(2, [3, 4]), (2, [3, 4]), (2, [5, 6]), (1, [3]), (1, [4]), (1, [5]), (1, [6])] := ⟨rfl, by decide⟩
    rw [NeedP.uniq (gameOf_TF smp_game) h h2]
    decide
  | false =>
    have h2 : NeedP smp sdep false (numF smp [] 4 false) [(2, [3, 5]), (1, [3]), (1, [5]), (1, [3]), (1, [4]), (1, [5]), (1, [6])] := ⟨rfl, by decide⟩
    rw [NeedP.uniq (gameOf_TF smp_game) h h2]
    decide
theorem ints_c {w : World} {v1 v2 : Value} {xs ys : List Int} (h1 : SlI w v1 xs) (h2 : SlI w v2 ys) :
    Calls Try.prog 41 #[v1, v2] w (Ret fun r w' => r = .bool (decide (xs = ys)) ∧ Below w.heap.size w w') := by
  have hl1 := Sl.len h1
  have hl2 := Sl.len h2
  obtain ⟨A1, c1, rfl⟩ := Sl.sl h1
  obtain ⟨A2, c2, rfl⟩ := Sl.sl h2
  refine calls_W (vs := [_, _]) Try.func41 rfl (by kernel_rfl) rfl ?_
  (repeat (first | with_reducible refine W.seq ?_ | with_reducible refine Ops.nil ?_ | with_reducible refine W.region ?_ | refine Ops.pu rfl rfl rfl ?_ | refine Ops.ar rfl rfl rfl (by omega) ?_ | refine Ops.yes rfl rfl rfl ?_ | refine Ops.no rfl rfl rfl rfl rfl ?_ | refine Ops.nu rfl rfl rfl rfl ?_ | with_reducible refine W.skip ?_ | with_reducible refine W.endb ?_ | with_reducible refine W.block ?_ | refine W.exit rfl ?_ | refine Ops.len rfl rfl rfl rfl rfl ?_ | refine Ops.flp rfl rfl rfl rfl rfl ?_ | refine Ops.max rfl rfl rfl rfl rfl ?_ | refine Ops.min rfl rfl rfl rfl rfl ?_ | refine Ops.eqB rfl rfl rfl rfl rfl rfl ?_ | refine Ops.neB rfl rfl rfl rfl rfl rfl ?_ | (apply Ops.ldB rfl rfl rfl rfl rfl; assumption; rfl)))
  refine W.cond rfl (fun hc => ?_) (fun hc => ?_)
  · (repeat (first | with_reducible refine W.seq ?_ | with_reducible refine Ops.nil ?_ | with_reducible refine W.region ?_ | refine Ops.pu rfl rfl rfl ?_ | refine Ops.ar rfl rfl rfl (by omega) ?_ | refine Ops.yes rfl rfl rfl ?_ | refine Ops.no rfl rfl rfl rfl rfl ?_ | refine Ops.nu rfl rfl rfl rfl ?_ | with_reducible refine W.skip ?_ | with_reducible refine W.endb ?_ | with_reducible refine W.block ?_ | refine W.exit rfl ?_ | refine Ops.len rfl rfl rfl rfl rfl ?_ | refine Ops.flp rfl rfl rfl rfl rfl ?_ | refine Ops.max rfl rfl rfl rfl rfl ?_ | refine Ops.min rfl rfl rfl rfl rfl ?_ | refine Ops.eqB rfl rfl rfl rfl rfl rfl ?_ | refine Ops.neB rfl rfl rfl rfl rfl rfl ?_ | (apply Ops.ldB rfl rfl rfl rfl rfl; assumption; rfl)))
    refine W.fret rfl ⟨?_, Below.refl _ _⟩
    have hne : xs ≠ ys := by intro e; subst e; simp at hc
    simp [hne, resV]
  · have hll : xs.length = ys.length := by simp at hc; omega
    (repeat (first | with_reducible refine W.seq ?_ | with_reducible refine Ops.nil ?_ | with_reducible refine W.region ?_ | refine Ops.pu rfl rfl rfl ?_ | refine Ops.ar rfl rfl rfl (by omega) ?_ | refine Ops.yes rfl rfl rfl ?_ | refine Ops.no rfl rfl rfl rfl rfl ?_ | refine Ops.nu rfl rfl rfl rfl ?_ | with_reducible refine W.skip ?_ | with_reducible refine W.endb ?_ | with_reducible refine W.block ?_ | refine W.exit rfl ?_ | refine Ops.len rfl rfl rfl rfl rfl ?_ | refine Ops.flp rfl rfl rfl rfl rfl ?_ | refine Ops.max rfl rfl rfl rfl rfl ?_ | refine Ops.min rfl rfl rfl rfl rfl ?_ | refine Ops.eqB rfl rfl rfl rfl rfl rfl ?_ | refine Ops.neB rfl rfl rfl rfl rfl rfl ?_ | (apply Ops.ldB rfl rfl rfl rfl rfl; assumption; rfl)))
    refine W.loop (fun m ρ w3 => ∃ j : Nat, m = xs.length - j ∧ j ≤ xs.length ∧ ρ = [(0, .slice A1 xs.length c1), (1, .slice A2 ys.length c2), (5, .int .i64 j)] ∧ Below w.heap.size w w3 ∧ ∀ k, k < j → xs.getD k 0 = ys.getD k 0)
      ⟨_, _, ⟨0, rfl, Nat.zero_le _, rfl, Below.refl _ _, fun k hk => by omega⟩, (by repeat (first | exact trivial | refine And.intro rfl ?_))⟩ ?_
    rintro m ρ w3 ⟨j, rfl, hj, rfl, hb3, hok⟩
    (repeat (first | with_reducible refine W.seq ?_ | with_reducible refine Ops.nil ?_ | with_reducible refine W.region ?_ | refine Ops.pu rfl rfl rfl ?_ | refine Ops.ar rfl rfl rfl (by omega) ?_ | refine Ops.yes rfl rfl rfl ?_ | refine Ops.no rfl rfl rfl rfl rfl ?_ | refine Ops.nu rfl rfl rfl rfl ?_ | with_reducible refine W.skip ?_ | with_reducible refine W.endb ?_ | with_reducible refine W.block ?_ | refine W.exit rfl ?_ | refine Ops.len rfl rfl rfl rfl rfl ?_ | refine Ops.flp rfl rfl rfl rfl rfl ?_ | refine Ops.max rfl rfl rfl rfl rfl ?_ | refine Ops.min rfl rfl rfl rfl rfl ?_ | refine Ops.eqB rfl rfl rfl rfl rfl rfl ?_ | refine Ops.neB rfl rfl rfl rfl rfl rfl ?_ | (apply Ops.ldB rfl rfl rfl rfl rfl; assumption; rfl)))
    refine W.cond rfl (fun hc => ?_) (fun hc => ?_)
    · have hlt : j < xs.length := by simp at hc; omega
      (repeat (first | with_reducible refine W.seq ?_ | with_reducible refine Ops.nil ?_ | with_reducible refine W.region ?_ | refine Ops.pu rfl rfl rfl ?_ | refine Ops.ar rfl rfl rfl (by omega) ?_ | refine Ops.yes rfl rfl rfl ?_ | refine Ops.no rfl rfl rfl rfl rfl ?_ | refine Ops.nu rfl rfl rfl rfl ?_ | with_reducible refine W.skip ?_ | with_reducible refine W.endb ?_ | with_reducible refine W.block ?_ | refine W.exit rfl ?_ | refine Ops.len rfl rfl rfl rfl rfl ?_ | refine Ops.flp rfl rfl rfl rfl rfl ?_ | refine Ops.max rfl rfl rfl rfl rfl ?_ | refine Ops.min rfl rfl rfl rfl rfl ?_ | refine Ops.eqB rfl rfl rfl rfl rfl rfl ?_ | refine Ops.neB rfl rfl rfl rfl rfl rfl ?_ | (apply Ops.ldB rfl rfl rfl rfl rfl; assumption; rfl)))
      refine W.still' rfl (by kernel_rfl) (fun w4 k4 _ => ?_)
      have hb4 := Below.at_ hb3 k4 (fun _ e => e.elim)
      (repeat (first | with_reducible refine W.seq ?_ | with_reducible refine Ops.nil ?_ | with_reducible refine W.region ?_ | refine Ops.pu rfl rfl rfl ?_ | refine Ops.ar rfl rfl rfl (by omega) ?_ | refine Ops.yes rfl rfl rfl ?_ | refine Ops.no rfl rfl rfl rfl rfl ?_ | refine Ops.nu rfl rfl rfl rfl ?_ | with_reducible refine W.skip ?_ | with_reducible refine W.endb ?_ | with_reducible refine W.block ?_ | refine W.exit rfl ?_ | refine Ops.len rfl rfl rfl rfl rfl ?_ | refine Ops.flp rfl rfl rfl rfl rfl ?_ | refine Ops.max rfl rfl rfl rfl rfl ?_ | refine Ops.min rfl rfl rfl rfl rfl ?_ | refine Ops.eqB rfl rfl rfl rfl rfl rfl ?_ | refine Ops.neB rfl rfl rfl rfl rfl rfl ?_ | (apply Ops.ldB rfl rfl rfl rfl rfl; assumption; rfl)))
      refine Ops.rdS (enc := Value.int .i64) (z := (0 : Int)) rfl rfl rfl rfl rfl rfl rfl rfl rfl rfl rfl (Sl.below h1 hb4) (by omega) (by omega) (fun p => ?_)
      (repeat (first | with_reducible refine W.seq ?_ | with_reducible refine Ops.nil ?_ | with_reducible refine W.region ?_ | refine Ops.pu rfl rfl rfl ?_ | refine Ops.ar rfl rfl rfl (by omega) ?_ | refine Ops.yes rfl rfl rfl ?_ | refine Ops.no rfl rfl rfl rfl rfl ?_ | refine Ops.nu rfl rfl rfl rfl ?_ | with_reducible refine W.skip ?_ | with_reducible refine W.endb ?_ | with_reducible refine W.block ?_ | refine W.exit rfl ?_ | refine Ops.len rfl rfl rfl rfl rfl ?_ | refine Ops.flp rfl rfl rfl rfl rfl ?_ | refine Ops.max rfl rfl rfl rfl rfl ?_ | refine Ops.min rfl rfl rfl rfl rfl ?_ | refine Ops.eqB rfl rfl rfl rfl rfl rfl ?_ | refine Ops.neB rfl rfl rfl rfl rfl rfl ?_ | (apply Ops.ldB rfl rfl rfl rfl rfl; assumption; rfl)))
      refine Ops.rdS (enc := Value.int .i64) (z := (0 : Int)) rfl rfl rfl rfl rfl rfl rfl rfl rfl rfl rfl (Sl.below h2 hb4) (by omega) (by omega) (fun p => ?_)
      simp only [Int.toNat_natCast]
      (repeat (first | with_reducible refine W.seq ?_ | with_reducible refine Ops.nil ?_ | with_reducible refine W.region ?_ | refine Ops.pu rfl rfl rfl ?_ | refine Ops.ar rfl rfl rfl (by omega) ?_ | refine Ops.yes rfl rfl rfl ?_ | refine Ops.no rfl rfl rfl rfl rfl ?_ | refine Ops.nu rfl rfl rfl rfl ?_ | with_reducible refine W.skip ?_ | with_reducible refine W.endb ?_ | with_reducible refine W.block ?_ | refine W.exit rfl ?_ | refine Ops.len rfl rfl rfl rfl rfl ?_ | refine Ops.flp rfl rfl rfl rfl rfl ?_ | refine Ops.max rfl rfl rfl rfl rfl ?_ | refine Ops.min rfl rfl rfl rfl rfl ?_ | refine Ops.eqB rfl rfl rfl rfl rfl rfl ?_ | refine Ops.neB rfl rfl rfl rfl rfl rfl ?_ | (apply Ops.ldB rfl rfl rfl rfl rfl; assumption; rfl)))
      refine Ops.nilS rfl ?_
      (repeat (first | with_reducible refine W.seq ?_ | with_reducible refine Ops.nil ?_ | with_reducible refine W.region ?_ | refine Ops.pu rfl rfl rfl ?_ | refine Ops.ar rfl rfl rfl (by omega) ?_ | refine Ops.yes rfl rfl rfl ?_ | refine Ops.no rfl rfl rfl rfl rfl ?_ | refine Ops.nu rfl rfl rfl rfl ?_ | with_reducible refine W.skip ?_ | with_reducible refine W.endb ?_ | with_reducible refine W.block ?_ | refine W.exit rfl ?_ | refine Ops.len rfl rfl rfl rfl rfl ?_ | refine Ops.flp rfl rfl rfl rfl rfl ?_ | refine Ops.max rfl rfl rfl rfl rfl ?_ | refine Ops.min rfl rfl rfl rfl rfl ?_ | refine Ops.eqB rfl rfl rfl rfl rfl rfl ?_ | refine Ops.neB rfl rfl rfl rfl rfl rfl ?_ | (apply Ops.ldB rfl rfl rfl rfl rfl; assumption; rfl)))
      refine W.cond rfl (fun hc2 => ?_) (fun hc2 => ?_)
      · (repeat (first | with_reducible refine W.seq ?_ | with_reducible refine Ops.nil ?_ | with_reducible refine W.region ?_ | refine Ops.pu rfl rfl rfl ?_ | refine Ops.ar rfl rfl rfl (by omega) ?_ | refine Ops.yes rfl rfl rfl ?_ | refine Ops.no rfl rfl rfl rfl rfl ?_ | refine Ops.nu rfl rfl rfl rfl ?_ | with_reducible refine W.skip ?_ | with_reducible refine W.endb ?_ | with_reducible refine W.block ?_ | refine W.exit rfl ?_ | refine Ops.len rfl rfl rfl rfl rfl ?_ | refine Ops.flp rfl rfl rfl rfl rfl ?_ | refine Ops.max rfl rfl rfl rfl rfl ?_ | refine Ops.min rfl rfl rfl rfl rfl ?_ | refine Ops.eqB rfl rfl rfl rfl rfl rfl ?_ | refine Ops.neB rfl rfl rfl rfl rfl rfl ?_ | (apply Ops.ldB rfl rfl rfl rfl rfl; assumption; rfl)))
        refine W.fret rfl ⟨?_, hb4⟩
        have hne : xs ≠ ys := by intro e; subst e; simp at hc2
        simp [hne, resV]
      · (repeat (first | with_reducible refine W.seq ?_ | with_reducible refine Ops.nil ?_ | with_reducible refine W.region ?_ | refine Ops.pu rfl rfl rfl ?_ | refine Ops.ar rfl rfl rfl (by omega) ?_ | refine Ops.yes rfl rfl rfl ?_ | refine Ops.no rfl rfl rfl rfl rfl ?_ | refine Ops.nu rfl rfl rfl rfl ?_ | with_reducible refine W.skip ?_ | with_reducible refine W.endb ?_ | with_reducible refine W.block ?_ | refine W.exit rfl ?_ | refine Ops.len rfl rfl rfl rfl rfl ?_ | refine Ops.flp rfl rfl rfl rfl rfl ?_ | refine Ops.max rfl rfl rfl rfl rfl ?_ | refine Ops.min rfl rfl rfl rfl rfl ?_ | refine Ops.eqB rfl rfl rfl rfl rfl rfl ?_ | refine Ops.neB rfl rfl rfl rfl rfl rfl ?_ | (apply Ops.ldB rfl rfl rfl rfl rfl; assumption; rfl)))
        refine W.endl ⟨_, _, ⟨⟨j + 1, rfl, by omega, rfl, hb4, fun k hk => ?_⟩, by omega⟩, (by repeat (first | exact trivial | refine And.intro rfl ?_))⟩
        by_cases e : k = j
        · rw [e]; simpa using hc2
        · exact hok k (by omega)
    · have hlt : j = xs.length := by simp at hc; omega
      subst hlt
      (repeat (first | with_reducible refine W.seq ?_ | with_reducible refine Ops.nil ?_ | with_reducible refine W.region ?_ | refine Ops.pu rfl rfl rfl ?_ | refine Ops.ar rfl rfl rfl (by omega) ?_ | refine Ops.yes rfl rfl rfl ?_ | refine Ops.no rfl rfl rfl rfl rfl ?_ | refine Ops.nu rfl rfl rfl rfl ?_ | with_reducible refine W.skip ?_ | with_reducible refine W.endb ?_ | with_reducible refine W.block ?_ | refine W.exit rfl ?_ | refine Ops.len rfl rfl rfl rfl rfl ?_ | refine Ops.flp rfl rfl rfl rfl rfl ?_ | refine Ops.max rfl rfl rfl rfl rfl ?_ | refine Ops.min rfl rfl rfl rfl rfl ?_ | refine Ops.eqB rfl rfl rfl rfl rfl rfl ?_ | refine Ops.neB rfl rfl rfl rfl rfl rfl ?_ | (apply Ops.ldB rfl rfl rfl rfl rfl; assumption; rfl)))
      refine W.fret rfl ⟨?_, hb3⟩
      have he : xs = ys := by
        apply List.ext_getElem hll
        intro i i1 i2
        have := hok i i1
        simpa [List.getD_eq_getElem?_getD, i1, i2] using this
      simp [he, resV]
theorem own2 {w : World} {r : Nat} {a b : Int} (h : Blk w r #[.int .i64 a, .int .i64 b] 3) : SlI w (.slice (some ⟨r, 0, none⟩) 2 2) [a, b] := by
  refine ⟨by simp, _, 2, rfl, fun _ => ⟨_, rfl, fun j hj => ?_⟩⟩
  rw [add_lit, Nat.zero_add]
  rcases j with _ | _ | j
  · exact h.cell rfl
  · exact h.cell rfl
  · simp at hj; omega
theorem sl3 {w : World} {r : Nat} {a b c : Int} (h : Blk w r #[.int .i64 a, .int .i64 b, .int .i64 c] 3) : SlI w (.slice (some ⟨r, 0, none⟩) 3 3) [a, b, c] := by
  refine ⟨by simp, _, 3, rfl, fun _ => ⟨_, rfl, fun j hj => ?_⟩⟩
  rw [add_lit, Nat.zero_add]
  rcases j with _ | _ | _ | j
  · exact h.cell rfl
  · exact h.cell rfl
  · exact h.cell rfl
  · simp at hj; omega
theorem sample_c (w : World) : Calls Try.prog 62 #[] w (Ret fun r w' => TreeM w' r smp ∧ Below w.heap.size w w') := by
  refine calls_W (vs := []) Try.func62 rfl (by kernel_rfl) rfl ?_
  (repeat (first | with_reducible refine W.seq ?_ | with_reducible refine Ops.nil ?_ | with_reducible refine W.region ?_ | refine Ops.pu rfl rfl rfl ?_ | refine Ops.ar rfl rfl rfl (by omega) ?_ | refine Ops.yes rfl rfl rfl ?_ | refine Ops.no rfl rfl rfl rfl rfl ?_ | refine Ops.nu rfl rfl rfl rfl ?_ | with_reducible refine W.skip ?_ | with_reducible refine W.endb ?_ | with_reducible refine W.block ?_ | refine W.exit rfl ?_ | refine Ops.len rfl rfl rfl rfl rfl ?_ | refine Ops.flp rfl rfl rfl rfl rfl ?_ | refine Ops.max rfl rfl rfl rfl rfl ?_ | refine Ops.min rfl rfl rfl rfl rfl ?_ | refine Ops.eqB rfl rfl rfl rfl rfl rfl ?_ | refine Ops.neB rfl rfl rfl rfl rfl rfl ?_ | (apply Ops.ldB rfl rfl rfl rfl rfl; assumption; rfl)))
  refine Ops.bs2 rfl rfl rfl rfl rfl rfl rfl rfl rfl rfl rfl (fun w1 r1 hM1 => ?_)
  refine Ops.bldG (cs := #[.slice (some ⟨r1, 0, none⟩) 2 2, .int .i64 0]) rfl rfl rfl rfl rfl rfl (by kernel_rfl) ?_
  refine Ops.bs2 rfl rfl rfl rfl rfl rfl rfl rfl rfl rfl rfl (fun w2 r2 hM2 => ?_)
  refine Ops.bldG (cs := #[.slice (some ⟨r2, 0, none⟩) 2 2, .int .i64 0]) rfl rfl rfl rfl rfl rfl (by kernel_rfl) ?_
  refine Ops.bs2 rfl rfl rfl rfl rfl rfl rfl rfl rfl rfl rfl (fun w3 r3 hM3 => ?_)
  refine Ops.bldG (cs := #[.slice (some ⟨r3, 0, none⟩) 2 2, .int .i64 0]) rfl rfl rfl rfl rfl rfl (by kernel_rfl) ?_
  refine Ops.bldG (cs := #[.slice none 0 0, .int .i64 3]) rfl rfl rfl rfl rfl rfl (by kernel_rfl) ?_
  refine Ops.bldG (cs := #[.slice none 0 0, .int .i64 5]) rfl rfl rfl rfl rfl rfl (by kernel_rfl) ?_
  refine Ops.bldG (cs := #[.slice none 0 0, .int .i64 2]) rfl rfl rfl rfl rfl rfl (by kernel_rfl) ?_
  refine Ops.bldG (cs := #[.slice none 0 0, .int .i64 9]) rfl rfl rfl rfl rfl rfl (by kernel_rfl) ?_
  refine Ops.bsG (cs := #[.slice (some ⟨r1, 0, none⟩) 2 2, .int .i64 0, .slice (some ⟨r2, 0, none⟩) 2 2, .int .i64 0, .slice (some ⟨r3, 0, none⟩) 2 2, .int .i64 0, .slice none 0 0, .int .i64 3, .slice none 0 0, .int .i64 5, .slice none 0 0, .int .i64 2, .slice none 0 0, .int .i64 9]) rfl rfl rfl rfl rfl rfl rfl rfl rfl (by kernel_rfl) (fun w4 r4 hM4 => ?_)
  (repeat (first | with_reducible refine W.seq ?_ | with_reducible refine Ops.nil ?_ | with_reducible refine W.region ?_ | refine Ops.pu rfl rfl rfl ?_ | refine Ops.ar rfl rfl rfl (by omega) ?_ | refine Ops.yes rfl rfl rfl ?_ | refine Ops.no rfl rfl rfl rfl rfl ?_ | refine Ops.nu rfl rfl rfl rfl ?_ | with_reducible refine W.skip ?_ | with_reducible refine W.endb ?_ | with_reducible refine W.block ?_ | refine W.exit rfl ?_ | refine Ops.len rfl rfl rfl rfl rfl ?_ | refine Ops.flp rfl rfl rfl rfl rfl ?_ | refine Ops.max rfl rfl rfl rfl rfl ?_ | refine Ops.min rfl rfl rfl rfl rfl ?_ | refine Ops.eqB rfl rfl rfl rfl rfl rfl ?_ | refine Ops.neB rfl rfl rfl rfl rfl rfl ?_ | (apply Ops.ldB rfl rfl rfl rfl rfl; assumption; rfl)))
  have k14 := (hM2.kp.trans hM3.kp).trans hM4.kp
  have k24 := hM3.kp.trans hM4.kp
  have h1 := own2 (Blk.kp hM1.at_ k14 (by rintro ((h | h) | h) <;> exact h))
  have h2 := own2 (Blk.kp hM2.at_ k24 (by rintro (h | h) <;> exact h))
  have h3 := own2 (Blk.kp hM3.at_ hM4.kp (fun h => h))
  have h4 : Blk w4 r4 #[.slice (some ⟨r1, 0, none⟩) 2 2, .int .i64 0, .slice (some ⟨r2, 0, none⟩) 2 2, .int .i64 0, .slice (some ⟨r3, 0, none⟩) 2 2, .int .i64 0, .slice none 0 0, .int .i64 3, .slice none 0 0, .int .i64 5, .slice none 0 0, .int .i64 2, .slice none 0 0, .int .i64 9] 47 := hM4.at_
  refine W.fret rfl ⟨⟨some ⟨r4, 0, none⟩, 7, [.slice (some ⟨r1, 0, none⟩) 2 2, .slice (some ⟨r2, 0, none⟩) 2 2, .slice (some ⟨r3, 0, none⟩) 2 2, .slice none 0 0, .slice none 0 0, .slice none 0 0, .slice none 0 0], rfl, fun _ => ⟨_, rfl, fun j hj => ?_⟩, fun j hj => ?_⟩, ((((hM1.kp.trans hM2.kp).trans hM3.kp).trans hM4.kp)).below (Nat.le_refl _) (by rintro i _ (((h | h) | h) | h) <;> exact h)⟩
  · rw [add_lit, add_lit, Nat.zero_add]
    rcases j with _ | _ | _ | _ | _ | _ | _ | j
    · exact ⟨h4.cell rfl, h4.cell rfl⟩
    · exact ⟨h4.cell rfl, h4.cell rfl⟩
    · exact ⟨h4.cell rfl, h4.cell rfl⟩
    · exact ⟨h4.cell rfl, h4.cell rfl⟩
    · exact ⟨h4.cell rfl, h4.cell rfl⟩
    · exact ⟨h4.cell rfl, h4.cell rfl⟩
    · exact ⟨h4.cell rfl, h4.cell rfl⟩
    · simp at hj; omega
  · rcases j with _ | _ | _ | _ | _ | _ | _ | j
    · exact h1
    · exact h2
    · exact h3
    · exact Sl.nil _ _ _ _ _
    · exact Sl.nil _ _ _ _ _
    · exact Sl.nil _ _ _ _ _
    · exact Sl.nil _ _ _ _ _
    · simp at hj; omega
theorem awake_c (w : World) : Calls Try.prog 22 #[] w (Ret fun r w' => r = .bool true ∧ Below w.heap.size w w') := by
  refine calls_W (vs := []) Try.func22 rfl (by kernel_rfl) rfl ?_
  have hl : smp.length ≤ 9223372036854775807 := by decide
  (repeat (first | with_reducible refine W.seq ?_ | with_reducible refine Ops.nil ?_ | with_reducible refine W.region ?_ | refine Ops.pu rfl rfl rfl ?_ | refine Ops.ar rfl rfl rfl (by omega) ?_ | refine Ops.yes rfl rfl rfl ?_ | refine Ops.no rfl rfl rfl rfl rfl ?_ | refine Ops.nu rfl rfl rfl rfl ?_ | with_reducible refine W.skip ?_ | with_reducible refine W.endb ?_ | with_reducible refine W.block ?_ | refine W.exit rfl ?_ | refine Ops.len rfl rfl rfl rfl rfl ?_ | refine Ops.flp rfl rfl rfl rfl rfl ?_ | refine Ops.max rfl rfl rfl rfl rfl ?_ | refine Ops.min rfl rfl rfl rfl rfl ?_ | refine Ops.eqB rfl rfl rfl rfl rfl rfl ?_ | refine Ops.neB rfl rfl rfl rfl rfl rfl ?_ | (apply Ops.ldB rfl rfl rfl rfl rfl; assumption; rfl)))
  refine Ops.call rfl rfl rfl rfl rfl (sample_c w) (fun v1 w1 hR => ?_)
  obtain ⟨hT1, hb1⟩ := hR
  refine Ops.call rfl rfl rfl rfl rfl (value_c hT1 hl) (fun r w2 hR => ?_)
  obtain ⟨hb12, hR⟩ := hR
  rw [smp_game] at hR
  obtain ⟨vs, hvs, rfl⟩ := hR
  rw [smp_val hvs]
  have hb2 := hb1.trans (hb12.mono hb1.size)
  clear hvs hT1
  (repeat (first | with_reducible refine W.seq ?_ | with_reducible refine Ops.nil ?_ | with_reducible refine W.region ?_ | refine Ops.pu rfl rfl rfl ?_ | refine Ops.ar rfl rfl rfl (by omega) ?_ | refine Ops.yes rfl rfl rfl ?_ | refine Ops.no rfl rfl rfl rfl rfl ?_ | refine Ops.nu rfl rfl rfl rfl ?_ | with_reducible refine W.skip ?_ | with_reducible refine W.endb ?_ | with_reducible refine W.block ?_ | refine W.exit rfl ?_ | refine Ops.len rfl rfl rfl rfl rfl ?_ | refine Ops.flp rfl rfl rfl rfl rfl ?_ | refine Ops.max rfl rfl rfl rfl rfl ?_ | refine Ops.min rfl rfl rfl rfl rfl ?_ | refine Ops.eqB rfl rfl rfl rfl rfl rfl ?_ | refine Ops.neB rfl rfl rfl rfl rfl rfl ?_ | (apply Ops.ldB rfl rfl rfl rfl rfl; assumption; rfl)))
  refine Ops.call rfl rfl rfl rfl rfl (sample_c w2) (fun v3 w3 hR => ?_)
  obtain ⟨hT3, hb23⟩ := hR
  have hb3 := hb2.trans (hb23.mono hb2.size)
  refine Ops.call rfl rfl rfl rfl rfl (search_c hT3 hl) (fun r w4 hR => ?_)
  obtain ⟨hb34, hR⟩ := hR
  have hb4 := hb3.trans (hb34.mono hb3.size)
  simp only [SearchR, smp_game, Option.elim, smp_srch] at hR
  obtain ⟨lv, rfl, hI4⟩ := hR
  clear hT3
  (repeat (first | with_reducible refine W.seq ?_ | with_reducible refine Ops.nil ?_ | with_reducible refine W.region ?_ | refine Ops.pu rfl rfl rfl ?_ | refine Ops.ar rfl rfl rfl (by omega) ?_ | refine Ops.yes rfl rfl rfl ?_ | refine Ops.no rfl rfl rfl rfl rfl ?_ | refine Ops.nu rfl rfl rfl rfl ?_ | with_reducible refine W.skip ?_ | with_reducible refine W.endb ?_ | with_reducible refine W.block ?_ | refine W.exit rfl ?_ | refine Ops.len rfl rfl rfl rfl rfl ?_ | refine Ops.flp rfl rfl rfl rfl rfl ?_ | refine Ops.max rfl rfl rfl rfl rfl ?_ | refine Ops.min rfl rfl rfl rfl rfl ?_ | refine Ops.eqB rfl rfl rfl rfl rfl rfl ?_ | refine Ops.neB rfl rfl rfl rfl rfl rfl ?_ | (apply Ops.ldB rfl rfl rfl rfl rfl; assumption; rfl)))
  refine Ops.call rfl rfl rfl rfl rfl (sample_c w4) (fun v5 w5 hR => ?_)
  obtain ⟨hT5, hb45⟩ := hR
  have hb5 := hb4.trans (hb45.mono hb4.size)
  refine Ops.call rfl rfl rfl rfl rfl (proof_c hT5 hl) (fun r w6 hR => ?_)
  obtain ⟨hb56, hR⟩ := hR
  have hb6 := hb5.trans (hb56.mono hb5.size)
  simp only [ProvedR, smp_game] at hR
  rw [if_pos (by decide)] at hR
  simp only [Option.elim] at hR
  obtain ⟨es, hes, _, hR⟩ := hR
  rw [smp_proof hes] at hR
  rcases hR with ⟨h, _⟩ | ⟨_, pv, rfl, hI6⟩
  · exact absurd h (by decide)
  clear hT5 hes
  (repeat (first | with_reducible refine W.seq ?_ | with_reducible refine Ops.nil ?_ | with_reducible refine W.region ?_ | refine Ops.pu rfl rfl rfl ?_ | refine Ops.ar rfl rfl rfl (by omega) ?_ | refine Ops.yes rfl rfl rfl ?_ | refine Ops.no rfl rfl rfl rfl rfl ?_ | refine Ops.nu rfl rfl rfl rfl ?_ | with_reducible refine W.skip ?_ | with_reducible refine W.endb ?_ | with_reducible refine W.block ?_ | refine W.exit rfl ?_ | refine Ops.len rfl rfl rfl rfl rfl ?_ | refine Ops.flp rfl rfl rfl rfl rfl ?_ | refine Ops.max rfl rfl rfl rfl rfl ?_ | refine Ops.min rfl rfl rfl rfl rfl ?_ | refine Ops.eqB rfl rfl rfl rfl rfl rfl ?_ | refine Ops.neB rfl rfl rfl rfl rfl rfl ?_ | (apply Ops.ldB rfl rfl rfl rfl rfl; assumption; rfl)))
  refine Ops.call rfl rfl rfl rfl rfl (sample_c w6) (fun v7 w7 hR => ?_)
  obtain ⟨hT7, hb67⟩ := hR
  have hb7 := hb6.trans (hb67.mono hb6.size)
  refine Ops.call rfl rfl rfl rfl rfl (numbers_c hT7 hl (Sl.nil (Value.int .i64) (0 : Int) w7 none 0)) (fun r w8 hR => ?_)
  obtain ⟨hb78, hR⟩ := hR
  have hb8 := hb7.trans (hb78.mono hb7.size)
  simp only [NumbersR, smp_game] at hR
  rw [if_pos (by decide)] at hR
  simp only [Option.elim] at hR
  obtain ⟨y, z, hy, hz, rfl⟩ := hR
  rw [smp_num hy, smp_num hz]
  have hI48 := Sl.below hI4.sl (hb45.trans ((hb56.trans ((hb67.trans (hb78.mono hb67.size)).mono hb56.size)).mono hb45.size))
  have hI68 := Sl.below hI6.sl (hb67.trans (hb78.mono hb67.size))
  clear hT7 hy hz
  (repeat (first | with_reducible refine W.seq ?_ | with_reducible refine Ops.nil ?_ | with_reducible refine W.region ?_ | refine Ops.pu rfl rfl rfl ?_ | refine Ops.ar rfl rfl rfl (by omega) ?_ | refine Ops.yes rfl rfl rfl ?_ | refine Ops.no rfl rfl rfl rfl rfl ?_ | refine Ops.nu rfl rfl rfl rfl ?_ | with_reducible refine W.skip ?_ | with_reducible refine W.endb ?_ | with_reducible refine W.block ?_ | refine W.exit rfl ?_ | refine Ops.len rfl rfl rfl rfl rfl ?_ | refine Ops.flp rfl rfl rfl rfl rfl ?_ | refine Ops.max rfl rfl rfl rfl rfl ?_ | refine Ops.min rfl rfl rfl rfl rfl ?_ | refine Ops.eqB rfl rfl rfl rfl rfl rfl ?_ | refine Ops.neB rfl rfl rfl rfl rfl rfl ?_ | (apply Ops.ldB rfl rfl rfl rfl rfl; assumption; rfl)))
  refine Ops.bsG (cs := #[.int .i64 3, .int .i64 4, .int .i64 5]) rfl rfl rfl rfl rfl rfl rfl rfl rfl (by kernel_rfl) (fun w9 r9 hM9 => ?_)
  have hb9 : Below w.heap.size w w9 := Below.at_ hb8 hM9.kp (fun _ e => e.elim)
  have h9 : SlI w9 (.slice (some ⟨r9, 0, none⟩) 3 3) [3, 4, 5] := sl3 hM9.at_
  have hI49 := hI48.kp hM9.kp (fun _ _ e => e)
  have hI69 := hI68.kp hM9.kp (fun _ _ e => e)
  (repeat (first | with_reducible refine W.seq ?_ | with_reducible refine Ops.nil ?_ | with_reducible refine W.region ?_ | refine Ops.pu rfl rfl rfl ?_ | refine Ops.ar rfl rfl rfl (by omega) ?_ | refine Ops.yes rfl rfl rfl ?_ | refine Ops.no rfl rfl rfl rfl rfl ?_ | refine Ops.nu rfl rfl rfl rfl ?_ | with_reducible refine W.skip ?_ | with_reducible refine W.endb ?_ | with_reducible refine W.block ?_ | refine W.exit rfl ?_ | refine Ops.len rfl rfl rfl rfl rfl ?_ | refine Ops.flp rfl rfl rfl rfl rfl ?_ | refine Ops.max rfl rfl rfl rfl rfl ?_ | refine Ops.min rfl rfl rfl rfl rfl ?_ | refine Ops.eqB rfl rfl rfl rfl rfl rfl ?_ | refine Ops.neB rfl rfl rfl rfl rfl rfl ?_ | (apply Ops.ldB rfl rfl rfl rfl rfl; assumption; rfl)))
  refine Ops.call rfl rfl rfl rfl rfl (ints_c hI49 h9) (fun r w10 hR => ?_)
  obtain ⟨rfl, hb910⟩ := hR
  rw [decide_eq_true (rfl : ([3, 4, 5] : List Int) = [3, 4, 5])]
  have hb10 := hb9.trans (hb910.mono hb9.size)
  (repeat (first | with_reducible refine W.seq ?_ | with_reducible refine Ops.nil ?_ | with_reducible refine W.region ?_ | refine Ops.pu rfl rfl rfl ?_ | refine Ops.ar rfl rfl rfl (by omega) ?_ | refine Ops.yes rfl rfl rfl ?_ | refine Ops.no rfl rfl rfl rfl rfl ?_ | refine Ops.nu rfl rfl rfl rfl ?_ | with_reducible refine W.skip ?_ | with_reducible refine W.endb ?_ | with_reducible refine W.block ?_ | refine W.exit rfl ?_ | refine Ops.len rfl rfl rfl rfl rfl ?_ | refine Ops.flp rfl rfl rfl rfl rfl ?_ | refine Ops.max rfl rfl rfl rfl rfl ?_ | refine Ops.min rfl rfl rfl rfl rfl ?_ | refine Ops.eqB rfl rfl rfl rfl rfl rfl ?_ | refine Ops.neB rfl rfl rfl rfl rfl rfl ?_ | (apply Ops.ldB rfl rfl rfl rfl rfl; assumption; rfl)))
  refine Ops.bs2 rfl rfl rfl rfl rfl rfl rfl rfl rfl rfl rfl (fun w11 r11 hM11 => ?_)
  have hb11 : Below w.heap.size w w11 := Below.at_ hb10 hM11.kp (fun _ e => e.elim)
  have h11 : SlI w11 (.slice (some ⟨r11, 0, none⟩) 2 2) [3, 4] := own2 hM11.at_
  have hI611 := (Sl.below hI69 hb910).kp hM11.kp (fun _ _ e => e)
  (repeat (first | with_reducible refine W.seq ?_ | with_reducible refine Ops.nil ?_ | with_reducible refine W.region ?_ | refine Ops.pu rfl rfl rfl ?_ | refine Ops.ar rfl rfl rfl (by omega) ?_ | refine Ops.yes rfl rfl rfl ?_ | refine Ops.no rfl rfl rfl rfl rfl ?_ | refine Ops.nu rfl rfl rfl rfl ?_ | with_reducible refine W.skip ?_ | with_reducible refine W.endb ?_ | with_reducible refine W.block ?_ | refine W.exit rfl ?_ | refine Ops.len rfl rfl rfl rfl rfl ?_ | refine Ops.flp rfl rfl rfl rfl rfl ?_ | refine Ops.max rfl rfl rfl rfl rfl ?_ | refine Ops.min rfl rfl rfl rfl rfl ?_ | refine Ops.eqB rfl rfl rfl rfl rfl rfl ?_ | refine Ops.neB rfl rfl rfl rfl rfl rfl ?_ | (apply Ops.ldB rfl rfl rfl rfl rfl; assumption; rfl)))
  refine Ops.call rfl rfl rfl rfl rfl (ints_c hI611 h11) (fun r w12 hR => ?_)
  obtain ⟨rfl, hb1112⟩ := hR
  have he : ((2, [3, 4]) : Ef).2.mergeSort (fun x y => decide (x ≤ y)) = [3, 4] := List.mergeSort_of_pairwise (by simp)
  rw [decide_eq_true he]
  have hb12' := hb11.trans (hb1112.mono hb11.size)
  (repeat (first | with_reducible refine W.seq ?_ | with_reducible refine Ops.nil ?_ | with_reducible refine W.region ?_ | refine Ops.pu rfl rfl rfl ?_ | refine Ops.ar rfl rfl rfl (by omega) ?_ | refine Ops.yes rfl rfl rfl ?_ | refine Ops.no rfl rfl rfl rfl rfl ?_ | refine Ops.nu rfl rfl rfl rfl ?_ | with_reducible refine W.skip ?_ | with_reducible refine W.endb ?_ | with_reducible refine W.block ?_ | refine W.exit rfl ?_ | refine Ops.len rfl rfl rfl rfl rfl ?_ | refine Ops.flp rfl rfl rfl rfl rfl ?_ | refine Ops.max rfl rfl rfl rfl rfl ?_ | refine Ops.min rfl rfl rfl rfl rfl ?_ | refine Ops.eqB rfl rfl rfl rfl rfl rfl ?_ | refine Ops.neB rfl rfl rfl rfl rfl rfl ?_ | (apply Ops.ldB rfl rfl rfl rfl rfl; assumption; rfl)))
  refine W.cond rfl (fun hc => ?_) (fun hc => ?_)
  · simp at hc
  (repeat (first | with_reducible refine W.seq ?_ | with_reducible refine Ops.nil ?_ | with_reducible refine W.region ?_ | refine Ops.pu rfl rfl rfl ?_ | refine Ops.ar rfl rfl rfl (by omega) ?_ | refine Ops.yes rfl rfl rfl ?_ | refine Ops.no rfl rfl rfl rfl rfl ?_ | refine Ops.nu rfl rfl rfl rfl ?_ | with_reducible refine W.skip ?_ | with_reducible refine W.endb ?_ | with_reducible refine W.block ?_ | refine W.exit rfl ?_ | refine Ops.len rfl rfl rfl rfl rfl ?_ | refine Ops.flp rfl rfl rfl rfl rfl ?_ | refine Ops.max rfl rfl rfl rfl rfl ?_ | refine Ops.min rfl rfl rfl rfl rfl ?_ | refine Ops.eqB rfl rfl rfl rfl rfl rfl ?_ | refine Ops.neB rfl rfl rfl rfl rfl rfl ?_ | (apply Ops.ldB rfl rfl rfl rfl rfl; assumption; rfl)))
  refine W.cond rfl (fun hc => ?_) (fun hc => ?_)
  · simp at hc
  (repeat (first | with_reducible refine W.seq ?_ | with_reducible refine Ops.nil ?_ | with_reducible refine W.region ?_ | refine Ops.pu rfl rfl rfl ?_ | refine Ops.ar rfl rfl rfl (by omega) ?_ | refine Ops.yes rfl rfl rfl ?_ | refine Ops.no rfl rfl rfl rfl rfl ?_ | refine Ops.nu rfl rfl rfl rfl ?_ | with_reducible refine W.skip ?_ | with_reducible refine W.endb ?_ | with_reducible refine W.block ?_ | refine W.exit rfl ?_ | refine Ops.len rfl rfl rfl rfl rfl ?_ | refine Ops.flp rfl rfl rfl rfl rfl ?_ | refine Ops.max rfl rfl rfl rfl rfl ?_ | refine Ops.min rfl rfl rfl rfl rfl ?_ | refine Ops.eqB rfl rfl rfl rfl rfl rfl ?_ | refine Ops.neB rfl rfl rfl rfl rfl rfl ?_ | (apply Ops.ldB rfl rfl rfl rfl rfl; assumption; rfl)))
  exact W.fret rfl ⟨rfl, hb12'⟩
end Go.Proofs.Ytdiljpnfochndaa
/- What a tree must fulfil; and that it is one then. -/
namespace Go.Proofs.Ytdiljpnfochndaa.HP
structure TK (l : List Nd) : Prop where
  n1 : 1 ≤ l.length
  n60 : l.length ≤ 60
  kin : ∀ a b : Nat, a < l.length → b < (kid l a).length → (a : Int) < k_ l a b ∧ k_ l a b < l.length
  inj : ∀ a b a' b' : Nat, a < l.length → b < (kid l a).length → a' < l.length → b' < (kid l a').length → k_ l a b = k_ l a' b' → a = a' ∧ b = b'
  cov : ∀ c : Nat, 1 ≤ c → c < l.length → ∃ a b : Nat, a < l.length ∧ b < (kid l a).length ∧ k_ l a b = c
  wor : ∀ a : Nat, a < l.length → -100 ≤ wor l a ∧ Go.Proofs.Ytdiljpnfochndaa.HP.wor l a ≤ 100 ∧ (0 < (kid l a).length → Go.Proofs.Ytdiljpnfochndaa.HP.wor l a = 0)
theorem TF.tk {l : List Nd} {dep : List Int} (h : TF l dep) : TK l := ⟨h.n1, h.n60, h.kin, h.inj, h.cov, h.wor⟩
theorem kids_go {l : List Nd} (hT : TK l) {i : Nat} (hi : i < l.length) (d : Nat) : ∀ (j : Nat) (dep : List Int), (kid l i).length - j = d → j ≤ (kid l i).length → Inv l i j dep → j ≤ cnt dep → ∃ dep', kidsStep l.length i ((kid l i).drop j) dep = some dep' := by
  induction d with
  | zero =>
    intro j dep hd hj h hjc
    rw [List.drop_eq_nil_of_le (by omega)]
    exact ⟨dep, rfl⟩
  | succ d ih =>
    intro j dep hd hj h hjc
    have hlt : j < (kid l i).length := by omega
    rw [kids_at _ _ _ _ _ hlt]
    have hk := hT.kin i j hi hlt
    have h3 : rd dep (k_ l i j) ≤ 0 := by
      by_cases e : rd dep (k_ l i j) ≤ 0
      · exact e
      · have hp : 0 < dep.getD (k_ l i j).toNat 0 := by simp only [rd] at e; omega
        obtain ⟨a, b, h1, h2, h4⟩ := h.p2 _ hp
        have ha : a < l.length := by unfold Dn at h1; omega
        have := hT.inj a b i j ha h2 hi hlt (by rw [h4]; omega)
        unfold Dn at h1
        omega
    have hc : (i : Int) + 1 ≤ (kid l i).getD j 0 ∧ (kid l i).getD j 0 ≤ (l.length : Int) - 1 ∧ rd dep ((kid l i).getD j 0) ≤ 0 := ⟨by have := hk.1; simp only [k_] at this; omega, by have := hk.2; simp only [k_] at this; omega, h3⟩
    rw [if_pos hc]
    have hbi := h.p4 i
    have h3' := h3
    simp only [rd] at h3'
    have hcc : cnt (dep.set (k_ l i j).toNat (rd dep i + 1)) = cnt dep + 1 := cnt_set (by rw [h.len]; omega) h3' (by simp only [rd, Int.toNat_natCast]; omega)
    exact ih (j + 1) _ (by omega) (by omega) (inv_step h hi hlt hc.1 hc.2.1 hc.2.2 (fun b hb => by omega) hjc) (by simp only [k_] at hcc; rw [hcc]; omega)
theorem node_step {l : List Nd} {i : Nat} {dep dep1 : List Int} (hlt : i < l.length) (h : NInv l i dep) (hc : ¬ ((0 < (i : Int) ∧ rd dep i = 0) ∨ ¬ (-100 ≤ wor l i ∧ wor l i ≤ 100) ∨ (0 < (kid l i).length ∧ wor l i ≠ 0))) (h1 : kidsStep l.length i (kid l i) dep = some dep1) : NInv l (i + 1) dep1 := by
  have hk := kids_inv hlt _ 0 dep dep1 rfl (Nat.zero_le _) h.inv (Nat.zero_le _) (by simpa using h1)
  have hkeep := kids_keep _ 0 dep dep1 rfl h.inv.len (by simpa using h1)
  refine ⟨⟨hk.len, ?_, ?_, ?_, hk.p4, ?_⟩, ?_, ?_⟩
  · intro a b hd hl; exact hk.p1 a b (by unfold Dn at *; by_cases e : a = i; subst e; exact .inr ⟨rfl, hl⟩; omega) hl
  · intro c hc; obtain ⟨a, b, h1, h2, h3⟩ := hk.p2 c hc; exact ⟨a, b, by unfold Dn at *; omega, h2, h3⟩
  · intro a b a' b' hd hl hd' hl' he
    exact hk.p3 a b a' b' (by unfold Dn at *; by_cases e : a = i; subst e; exact .inr ⟨rfl, hl⟩; omega) hl (by unfold Dn at *; by_cases e : a' = i; subst e; exact .inr ⟨rfl, hl'⟩; omega) hl' he
  · intro a b hd hl; exact hk.p5 a b (by unfold Dn at *; by_cases e : a = i; subst e; exact .inr ⟨rfl, hl⟩; omega) hl
  · intro c hc1 hc2
    rw [hkeep c (by omega)]
    by_cases e : c = i
    · subst e
      have := h.inv.p4 c
      simp only [rd, Int.toNat_natCast] at hc
      omega
    · exact h.pos c hc1 (by omega)
  · intro a ha
    by_cases e : a = i
    · subst e
      by_cases h1 : -100 ≤ Go.Proofs.Ytdiljpnfochndaa.HP.wor l a ∧ Go.Proofs.Ytdiljpnfochndaa.HP.wor l a ≤ 100
      · refine ⟨h1.1, h1.2, fun hp => ?_⟩
        by_cases h2 : Go.Proofs.Ytdiljpnfochndaa.HP.wor l a = 0
        · exact h2
        · exact absurd (.inr (.inr ⟨hp, h2⟩)) hc
      · exact absurd (.inr (.inl h1)) hc
    · exact h.wor a (by omega)
theorem nodes_go {l : List Nd} (hT : TK l) (d : Nat) : ∀ (i : Nat) (dep : List Int), l.length - i = d → i ≤ l.length → NInv l i dep → ∃ dep', nodesStep l.length i (l.drop i) dep = some dep' := by
  induction d with
  | zero =>
    intro i dep hd hi h
    rw [List.drop_eq_nil_of_le (by omega)]
    exact ⟨dep, rfl⟩
  | succ d ih =>
    intro i dep hd hi h
    have hlt : i < l.length := by omega
    rw [nodes_at _ _ _ _ hlt]
    have hw := hT.wor i hlt
    have hc : ¬ ((0 < (i : Int) ∧ rd dep i = 0) ∨ ¬ (-100 ≤ wor l i ∧ wor l i ≤ 100) ∨ (0 < (kid l i).length ∧ wor l i ≠ 0)) := by
      rintro (⟨h1, h2⟩ | h1 | ⟨h1, h2⟩)
      · obtain ⟨a, b, ha, hb, he⟩ := hT.cov i (by omega) hlt
        have hk := hT.kin a b ha hb
        have := h.inv.p1 a b (by unfold Dn; omega) hb
        rw [he] at this
        have h4 := h.inv.p4 a
        have h5 := this.2.2
        simp only [rd, Int.toNat_natCast] at h5 h2
        omega
      · exact h1 ⟨hw.1, hw.2.1⟩
      · exact h2 (hw.2.2 h1)
    rw [if_neg hc]
    obtain ⟨dep1, h1⟩ := kids_go hT hlt _ 0 dep rfl (Nat.zero_le _) h.inv (Nat.zero_le _)
    rw [List.drop_zero] at h1
    rw [h1]
    exact ih (i + 1) dep1 (by omega) (by omega) (node_step hlt h hc h1)
theorem cnt_all {dep : List Int} (h0 : dep.getD 0 0 ≤ 0) (h : ∀ c : Nat, 1 ≤ c → c < dep.length → 0 < dep.getD c 0) (hl : 1 ≤ dep.length) : 1 + cnt dep = dep.length := by
  cases dep with
  | nil => simp at hl
  | cons a r =>
    simp only [List.getD_cons_zero] at h0
    have : r.countP (fun x => decide (0 < x)) = r.length := by
      rw [List.countP_eq_length]
      intro x hx
      obtain ⟨i, hi, rfl⟩ := List.mem_iff_getElem.1 hx
      have := h (i + 1) (by omega) (by simp; omega)
      simp only [List.getD_cons_succ] at this
      rw [List.getD_eq_getElem?_getD, List.getElem?_eq_getElem hi] at this
      simpa using this
    simp only [cnt, List.countP_cons, this, List.length_cons]
    rw [if_neg (by simpa using h0)]
    omega
theorem TK.game {l : List Nd} (hT : TK l) : ∃ dep, gameOf l = some dep := by
  have hz : ∀ c : Nat, (List.replicate l.length (0 : Int)).getD c 0 = 0 := by
    intro c; rw [List.getD_eq_getElem?_getD, List.getElem?_replicate]; split <;> rfl
  have hI : NInv l 0 (List.replicate l.length 0) := ⟨⟨by simp, fun a b hd => by unfold Dn at hd; omega, fun c hc => by rw [hz] at hc; omega, fun a b a' b' hd => by unfold Dn at hd; omega, fun c => by rw [hz]; omega, fun a b hd => by unfold Dn at hd; omega⟩, fun c h1 h2 => by omega, fun a ha => by omega⟩
  obtain ⟨dep, hd⟩ := nodes_go hT _ 0 _ rfl (Nat.zero_le _) hI
  have hE := nodes_inv _ 0 _ dep rfl (Nat.zero_le _) hI hd
  rw [List.drop_zero] at hd
  refine ⟨dep, ?_⟩
  unfold gameOf
  rw [if_pos ⟨hT.n1, hT.n60⟩]
  have hd' : nodesStep (l.length : Int) 0 l (List.replicate l.length 0) = some dep := hd
  rw [hd', Option.bind_some, if_pos]
  rw [← hE.inv.len]
  exact cnt_all (by have := hE.inv.p4 0; omega) (fun c h1 h2 => hE.pos c h1 (by rw [← hE.inv.len]; exact h2)) (by rw [hE.inv.len]; exact hT.n1)
end Go.Proofs.Ytdiljpnfochndaa.HP
/- The trees that the statements make. -/
namespace Go.Proofs.Ytdiljpnfochndaa.HP
def modM (x n : Int) : Int := (x % 18446744073709551616) % n
theorem modM_bd (x : Int) {n : Int} (h : 0 < n) : 0 ≤ modM x n ∧ modM x n < n := ⟨Int.emod_nonneg _ (by omega), Int.emod_lt_of_pos _ h⟩
def addKid (c : List (List Int)) (p : Nat) : List (List Int) := (c ++ [[]]).set p (c.getD p [] ++ [(c.length : Int)])
def chM (ps : List Int) : Nat → List (List Int)
  | 0 => [[]]
  | i + 1 => addKid (chM ps i) (modM (ps.getD i 0) (i + 1)).toNat
theorem chM_len (ps : List Int) : ∀ i, (chM ps i).length = i + 1
  | 0 => rfl
  | i + 1 => by simp [chM, addKid, chM_len ps i]
def kk (c : List (List Int)) (a b : Nat) : Int := (c.getD a []).getD b 0
structure CI (c : List (List Int)) : Prop where
  kin : ∀ a b : Nat, a < c.length → b < (c.getD a []).length → (a : Int) < kk c a b ∧ kk c a b < c.length
  inj : ∀ a b a' b' : Nat, a < c.length → b < (c.getD a []).length → a' < c.length → b' < (c.getD a' []).length → kk c a b = kk c a' b' → a = a' ∧ b = b'
  cov : ∀ x : Nat, 1 ≤ x → x < c.length → ∃ a b : Nat, a < c.length ∧ b < (c.getD a []).length ∧ kk c a b = x
theorem addKid_len (c : List (List Int)) (p : Nat) : (addKid c p).length = c.length + 1 := by simp [addKid]
theorem addKid_p {c : List (List Int)} {p : Nat} (hp : p < c.length) : (addKid c p).getD p [] = c.getD p [] ++ [(c.length : Int)] := by
  rw [addKid, List.getD_eq_getElem?_getD, List.getElem?_set_self (by simp; omega)]
  rfl
theorem addKid_ne {c : List (List Int)} {p a : Nat} (h : a ≠ p) (ha : a < c.length) : (addKid c p).getD a [] = c.getD a [] := by
  rw [addKid, List.getD_eq_getElem?_getD, List.getElem?_set_ne (Ne.symm h), List.getElem?_append_left ha, ← List.getD_eq_getElem?_getD]
theorem addKid_new {c : List (List Int)} {p : Nat} (hp : p < c.length) : (addKid c p).getD c.length [] = [] := by
  rw [addKid, List.getD_eq_getElem?_getD, List.getElem?_set_ne (by omega), List.getElem?_append_right (Nat.le_refl _)]
  simp
theorem snoc_getD {xs : List Int} {z : Int} {b : Nat} (h : b < (xs ++ [z]).length) : (xs ++ [z]).getD b 0 = if b < xs.length then xs.getD b 0 else z := by
  split
  · rename_i hb
    rw [List.getD_eq_getElem?_getD, List.getElem?_append_left hb, ← List.getD_eq_getElem?_getD]
  · rename_i hb
    have : b = xs.length := by simp at h; omega
    subst this
    simp [List.getD_eq_getElem?_getD]
/-- Where a child stands. -/
theorem addKid_at {c : List (List Int)} {p a b : Nat} (hp : p < c.length) (ha : a < (addKid c p).length) (hb : b < ((addKid c p).getD a []).length) :
    (a < c.length ∧ b < (c.getD a []).length ∧ kk (addKid c p) a b = kk c a b) ∨ (a = p ∧ b = (c.getD p []).length ∧ kk (addKid c p) a b = c.length) := by
  rw [addKid_len] at ha
  by_cases e : a = p
  · subst e
    unfold kk
    rw [addKid_p hp] at hb ⊢
    have := snoc_getD hb
    split at this
    · rename_i hl; exact .inl ⟨hp, hl, this⟩
    · rename_i hl; exact .inr ⟨rfl, by rw [List.length_append, List.length_singleton] at hb; omega, this⟩
  · by_cases e2 : a = c.length
    · subst e2
      rw [addKid_new hp] at hb
      simp at hb
    · have ha' : a < c.length := by omega
      unfold kk
      rw [addKid_ne e ha'] at hb ⊢
      exact .inl ⟨ha', hb, rfl⟩
theorem CI.add {c : List (List Int)} (h : CI c) {p : Nat} (hp : p < c.length) : CI (addKid c p) := by
  refine ⟨fun a b ha hb => ?_, fun a b a' b' ha hb ha' hb' he => ?_, fun x h1 h2 => ?_⟩
  · rw [addKid_len]
    rcases addKid_at hp ha hb with ⟨h1, h2, h3⟩ | ⟨h1, h2, h3⟩
    · have := h.kin a b h1 h2
      rw [h3]
      omega
    · rw [h3]; omega
  · rcases addKid_at hp ha hb with ⟨h1, h2, h3⟩ | ⟨h1, h2, h3⟩ <;> rcases addKid_at hp ha' hb' with ⟨q1, q2, q3⟩ | ⟨q1, q2, q3⟩
    · rw [h3, q3] at he; exact h.inj a b a' b' h1 h2 q1 q2 he
    · rw [h3, q3] at he; have := h.kin a b h1 h2; omega
    · rw [h3, q3] at he; have := h.kin a' b' q1 q2; omega
    · exact ⟨by omega, by omega⟩
  · rw [addKid_len] at h2
    by_cases e : x = c.length
    · subst e
      refine ⟨p, (c.getD p []).length, by rw [addKid_len]; omega, by rw [addKid_p hp]; simp, ?_⟩
      unfold kk
      rw [addKid_p hp]
      simp [List.getD_eq_getElem?_getD]
    · obtain ⟨a, b, ha, hb, hk⟩ := h.cov x h1 (by omega)
      refine ⟨a, b, by rw [addKid_len]; omega, ?_, ?_⟩
      · by_cases e : a = p
        · subst e; rw [addKid_p hp, List.length_append, List.length_singleton]; omega
        · rw [addKid_ne e ha]; exact hb
      · unfold kk at hk ⊢
        by_cases e : a = p
        · subst e
          rw [addKid_p hp, snoc_getD (by rw [List.length_append, List.length_singleton]; omega), if_pos hb]
          exact hk
        · rw [addKid_ne e ha]; exact hk
theorem chM_CI (ps : List Int) : ∀ i, CI (chM ps i)
  | 0 => ⟨fun a b ha hb => by
      have : a = 0 := by simp [chM] at ha; omega
      subst this
      simp [chM] at hb, fun a b a' b' ha hb => by
      have : a = 0 := by simp [chM] at ha; omega
      subst this
      simp [chM] at hb, fun x h1 h2 => by simp [chM] at h2; omega⟩
  | i + 1 => (chM_CI ps i).add (by
      have := modM_bd (ps.getD i 0) (n := (i : Int) + 1) (by omega)
      rw [chM_len]
      omega)
def rounds (ps : List Int) (most : Nat) : Nat := min (most - 1) ps.length
def tameN (ps ws : List Int) (c : List (List Int)) (i : Nat) : Nd := (c.getD i [], if (c.getD i []).length = 0 ∧ i < ws.length then modM (ws.getD i 0) 201 - 100 else 0)
def tameM (ps ws : List Int) (most : Nat) : List Nd := (List.range (rounds ps most + 1)).map (tameN ps ws (chM ps (rounds ps most)))
theorem tameM_len (ps ws : List Int) (most : Nat) : (tameM ps ws most).length = rounds ps most + 1 := by simp [tameM]
theorem tameM_at {ps ws : List Int} {most i : Nat} (h : i < rounds ps most + 1) : (tameM ps ws most).getD i ([], 0) = tameN ps ws (chM ps (rounds ps most)) i := by
  simp [tameM, List.getD_eq_getElem?_getD, h]
theorem tame_kid {ps ws : List Int} {most i : Nat} (h : i < rounds ps most + 1) : kid (tameM ps ws most) i = (chM ps (rounds ps most)).getD i [] := by
  unfold kid
  rw [Int.toNat_natCast, tameM_at h]
  rfl
theorem tame_TK {ps ws : List Int} {most : Nat} (h0 : 1 ≤ most) (hm : most ≤ 60) : TK (tameM ps ws most) := by
  have hci := chM_CI ps (rounds ps most)
  have hl := chM_len ps (rounds ps most)
  have hr : rounds ps most + 1 ≤ 60 := by unfold rounds; omega
  refine ⟨by rw [tameM_len]; omega, by rw [tameM_len]; omega, fun a b ha hb => ?_, fun a b a' b' ha hb ha' hb' he => ?_, fun c h1 h2 => ?_, fun a ha => ?_⟩
  · rw [tameM_len] at ha ⊢
    rw [tame_kid ha] at hb
    have := hci.kin a b (by omega) hb
    unfold k_
    rw [tame_kid ha]
    unfold kk at this
    rw [hl] at this
    exact this
  · rw [tameM_len] at ha ha'
    rw [tame_kid ha] at hb
    rw [tame_kid ha'] at hb'
    unfold k_ at he
    rw [tame_kid ha, tame_kid ha'] at he
    exact hci.inj a b a' b' (by omega) hb (by omega) hb' he
  · rw [tameM_len] at h2
    obtain ⟨a, b, ha, hb, he⟩ := hci.cov c h1 (by omega)
    have ha' : a < rounds ps most + 1 := by omega
    refine ⟨a, b, by rw [tameM_len]; omega, by rw [tame_kid ha']; exact hb, ?_⟩
    unfold k_
    rw [tame_kid ha']
    exact he
  · rw [tameM_len] at ha
    rw [tame_kid ha]
    have hw : wor (tameM ps ws most) a = (tameN ps ws (chM ps (rounds ps most)) a).2 := by unfold wor; rw [Int.toNat_natCast, tameM_at ha]
    rw [hw]
    simp only [tameN]
    have := modM_bd (ws.getD a 0) (n := 201) (by omega)
    split
    · exact ⟨by omega, by omega, fun h => by omega⟩
    · exact ⟨by omega, by omega, fun _ => rfl⟩
end Go.Proofs.Ytdiljpnfochndaa.HP
/- Conversions of ints; rests of other kinds; appends of structs. -/
namespace Go.Proofs.Ytdiljpnfochndaa.VW
open Go Go.RowKit
section
variable {P : Program} [hT : Tab P] {n : Nat} {ds : List Deferred} {Φ : Post} {k : List It} {ρ : E} {w : World} {all : Array Oper} {l : List Oper} {md : Option (List Oper)}
theorem Ops.cv {o : Oper} {d s t : Nat} {x : Operand} {k1 k2 : IntKind} {v : Int} (ho : o.op = .convert s t x) (hd : o.dst = some d) (hg : o.guard = none)
    (h1 : tyD P s = some (.int k1)) (h2 : tyD P t = some (.int k2)) (hx : ev ρ x = some (.int k1 v)) (hk : Ops md P n ds all k Φ l ((d, .int k2 (k2.wrap v)) :: ρ) w) : Ops md P n ds all k Φ (o :: l) ρ w := by
  refine Ops.valS hd hg (fun a hr => ?_) hk
  have hu1 := td_int (tyD_ok h1)
  have hu2 := td_int (tyD_ok h2)
  have hi : P.intKind t = k2 := by simp [Program.intKind, hu2]
  have := run_convert_int (P := P) (w := w) s t k1 v (by simp [hu1]) (by rw [hi]; exact hu2)
  simp only [execOp, ho, hr.ev hx]
  simp [this, hi]
theorem Ops.remK {o : Oper} {kd : IntKind} {u v : Int} {d t t' : Nat} {x y : Operand} (ho : o.op = .binOp .rem t x y t') (hd : o.dst = some d) (hg : o.guard = none) (hx : ev ρ x = some (.int kd u)) (hy : ev ρ y = some (.int kd v)) (hv : v ≠ 0)
    (hk : Ops md P n ds all k Φ l ((d, .int kd (u.tmod v)) :: ρ) w) : Ops md P n ds all k Φ (o :: l) ρ w := by
  refine Ops.valS hd hg (fun a hr => ?_) hk
  simp only [execOp, ho, hr.ev hx, hr.ev hy]
  simp [eqGuard, binOp, Op.intDiv, hv, go_sem]
/-- s = append(s, x): an element of two cells. -/
theorem Ops.push2 {o1 o2 : Oper} {d1 d2 t e by' nn : Nat} {x y : Operand} {a b lv z0 z1 : Value} {xs : List Value}
    (h1 : o1.op = .buildSlice t 1 #[(0, x)]) (hd1 : o1.dst = some d1) (hg1 : o1.guard = none) (h2 : o2.op = .call { callee := .builtin .append, args := #[y, .tmp d1], argTypes := #[t, t] }) (hd2 : o2.dst = some d2) (hg2 : o2.guard = none)
    (ht : tyD P t = some (.slice e)) (hs : tyS P e = some 2) (hb : tyB P e = some (by' + 1)) (hz : tyZ P e = some (.agg #[z0, z1])) (hx : ev ρ x = some (.agg #[a, b])) (hy : ∀ p, ev ((d1, p) :: ρ) y = some lv) (ha : a.oneCell' = true) (hb1 : b.oneCell' = true)
    (hown : w.ownsRow 0 e 2 lv nn xs) (hbytes : (nn + 1) * (by' + 1) ≤ 140737488355328)
    (hk : ∀ lv' p w', w'.ownsRow 0 e 2 lv' (nn + 1) (xs ++ [a, b]) → Kp (fun i => lv.ownBlock = some i) w w' → (∀ i, lv'.ownBlock = some i → lv.ownBlock = some i ∨ w.heap.size ≤ i) → Ops none P n ds all k Φ l ((d2, lv') :: (d1, p) :: ρ) w') : Ops none P n ds all k Φ (o1 :: o2 :: l) ρ w := by
  have hr2 : Array.range 2 = #[0, 1] := rfl
  refine Ops.bsG (cs := #[a, b]) h1 hd1 hg1 ht hs hz (vs := [(0, .agg #[a, b])]) (by simp [evP, hx]) rfl rfl (by simp [Instr.fill, Value.cells, hr2]) (fun w1 r hM => ?_)
  have hB : Blk w1 r #[a, b] e := hM.at_
  refine Ops.app (sz := 1) (news := [a, b]) (m := 1) (A := ⟨r, 0, none⟩) (c := 1) h2 hd2 hg2 ht hs hb hz rfl (hy _) (ev_top _ _ _) (own_kp hown hM.kp (fun _ _ e => e)) rfl ?_ (by simp [ha, hb1]) hbytes (fun v' w' ho hk' hn => hk v' _ w' ho ?_ ?_)
  · intro j u hu
    rw [add_lit, Nat.zero_add]
    exact hB.cell (by simpa using hu)
  · exact (hM.kp.trans hk').mono (fun i _ e => by rcases e with e | e; exact e.elim; exact e)
  · intro i hi
    rcases hn i hi with h | h
    · exact .inl h
    · right; have := hM.size; omega
end
end Go.Proofs.Ytdiljpnfochndaa.VW
