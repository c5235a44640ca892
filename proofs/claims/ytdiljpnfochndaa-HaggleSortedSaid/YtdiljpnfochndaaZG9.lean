/- A part of the walk: what this seat's statements share. -/
import Derived.Test.YtdiljpnfochndaaZG8
import Derived.Test.YtdiljpnfochndaaZG2
import Derived.Test.YtdiljpnfochndaaZG7
set_option linter.unusedVariables false
set_option linter.unusedSimpArgs false
set_option linter.unusedSectionVars false
/- A store into a slice of the call's own, behind another effect of a drawn region. -/
namespace Go.Proofs.Ytdiljpnfochndaa.VW
open Go Go.RowKit
section
variable {P : Program} [hT : Tab P] {n : Nat} {ds : List Deferred} {Φ : Post} {k : List It} {ρ : E} {w : World} {all : Array Oper} {π : List (Nat × Nat)} {L : List Bool}
theorem Ord.wrO {α : Type} {enc : α → Value} {w0 : World} {i1 i2 d1 t t' e : Nat} {o1 o2 : Oper} {x y z : Operand} {v : Value} {u : α} {i : Int} {os : List α} {c1 : Bool}
    (h1 : all[i1]? = some o1) (ho : o1.op = .indexAddr t x y) (hd1 : o1.dst = some d1) (hg1 : gdB all ρ o1.guard = some c1) (hc1 : c1 = true) (h2 : all[i2]? = some o2) (ho2 : o2.op = .store t' (.tmp d1) z) (hd2 : o2.dst = none) (hg2 : o2.guard = none)
    (ht : tyD P t = some (.slice e)) (hs : tyS P e = some 1) (hs' : tyS P t' = some 1) (hx : ev ρ x = some v) (hy : ev ρ y = some (.int .i64 i)) (hz : ∀ p, ev ((d1, .pointer p) :: ρ) z = some (enc u)) (h1c : (enc u).oneCell' = true)
    (hO : OI e enc w0 w v os) (h0 : 0 ≤ i) (hi : i < os.length) (hΦ : ∀ c ρ w, ¬ Φ (.panic c) ρ w)
    (hk : ∀ w' p, OI e enc w0 w' v (os.set i.toNat u) → Kp (fun b => v.ownBlock = some b) w w' → w'.heap.size = w.heap.size → VW.Ord P n ds all k Φ 9999 (fun _ => True) π ((L.set i1 true).set i2 true) ((d1, p) :: ρ) w') : VW.Ord P n ds all k Φ 9999 (fun _ => True) ((i1, 1) :: (i2, 0) :: π) L ρ w := by
  obtain ⟨A, c, rfl⟩ := hO.sh
  have hA : ∃ a, A = some a := by
    cases A with
    | some a => exact ⟨a, rfl⟩
    | none =>
      rcases hO.own.2 with ⟨h2, h3⟩ | ⟨g, cap, cur, h2, _⟩
      · omega
      · cases h2
  obtain ⟨a, rfl⟩ := hA
  refine VW.Ord.pure h1 hd1 hg1 hc1 hΦ (fun w => EV.idx ho ht hs hx hy h0 hi) (VW.Ord.effT h2 ?_)
  exact Ops.stO (i := i.toNat) ho2 hd2 hg2 hs' rfl (ev_top _ _ _) (hz _) h1c hO (by omega) (fun w' hO' k1 hsz => Ops.nil (W.endl (hk w' _ hO' k1 hsz)))
end
end Go.Proofs.Ytdiljpnfochndaa.VW
/- int(uint(x) >> 1) -/
namespace Go.Proofs.Ytdiljpnfochndaa.VW
open Go Go.RowKit
section
variable {P : Program} [hT : Tab P] {n : Nat} {ds : List Deferred} {Φ : Post} {k : List It} {ρ : E} {w : World} {all : Array Oper} {l : List Oper} {md : Option (List Oper)}
theorem wrapU64 {s : Nat} (h : s < 9223372036854775808) : IntKind.u64.wrap (s : Int) = s := by
  have : (s : Int) % 18446744073709551616 = s := by omega
  simp [IntKind.wrap, IntKind.bits, IntKind.signed, this]
theorem wrapI64 {s : Nat} (h : s < 9223372036854775808) : IntKind.i64.wrap (s : Int) = s := by
  have : (s : Int) % 18446744073709551616 = s := by omega
  simp [IntKind.wrap, IntKind.bits, IntKind.signed, this]
  omega
theorem Ops.half {o1 o2 o3 : Oper} {d1 d2 d3 s1 t1 t2 t2' s3 t3 : Nat} {x y : Operand} {s : Nat} (h1 : o1.op = .convert s1 t1 x) (hd1 : o1.dst = some d1) (hg1 : o1.guard = none) (e1 : tyD P s1 = some (.int .i64)) (e2 : tyD P t1 = some (.int .u64)) (hx : ev ρ x = some (.int .i64 (s : Int)))
    (h2 : o2.op = .binOp .shr t2 (.tmp d1) y t2') (hd2 : o2.dst = some d2) (hg2 : gdB all ((d1, .int .u64 (IntKind.u64.wrap (s : Int))) :: ρ) o2.guard = some true) (hy : ev ((d1, .int .u64 (IntKind.u64.wrap (s : Int))) :: ρ) y = some (.int .u64 1))
    (h3 : o3.op = .convert s3 t3 (.tmp d2)) (hd3 : o3.dst = some d3) (hg3 : o3.guard = none) (e3 : tyD P s3 = some (.int .u64)) (e4 : tyD P t3 = some (.int .i64)) (hs : s < 9223372036854775808)
    (hk : Ops md P n ds all k Φ l ((d3, .int .i64 ((s / 2 : Nat) : Int)) :: (d2, .int .u64 ((s / 2 : Nat) : Int)) :: (d1, .int .u64 (s : Int)) :: ρ) w) : Ops md P n ds all k Φ (o1 :: o2 :: o3 :: l) ρ w := by
  have w1 := wrapU64 hs
  rw [w1] at hg2 hy
  refine Ops.cv h1 hd1 hg1 e1 e2 hx ?_
  rw [w1]
  have w2 : Int.fdiv (s : Int) 2 = ((s / 2 : Nat) : Int) := by rw [Int.fdiv_eq_ediv_of_nonneg _ (by omega)]; rfl
  refine Ops.evG hd2 hg2 rfl (EV.bsh (v := ((s / 2 : Nat) : Int)) h2 (ev_top _ _ _) hy ?_) ?_
  · simp [bsh, IntKind.bits, w2]
  refine Ops.cv h3 hd3 hg3 e3 e4 (ev_top _ _ _) ?_
  rw [wrapI64 (by omega)]
  exact hk
end
end Go.Proofs.Ytdiljpnfochndaa.VW
/- x == nil for slices; an empty literal; a field of an element written in a drawn region. -/
namespace Go.Proofs.Ytdiljpnfochndaa.VW
open Go Go.RowKit
section
variable {P : Program} [hT : Tab P] {n : Nat} {ds : List Deferred} {Φ : Post} {k : List It} {ρ : E} {w : World} {all : Array Oper} {l : List Oper} {md : Option (List Oper)} {s : Nat} {F : World → Prop} {π : List (Nat × Nat)} {L : List Bool}
theorem EV.nilE {o : Oper} {t t' e m c : Nat} {x y : Operand} {A : Option Addr} (ho : o.op = .binOp .eql t x y t') (ht : tyD P t = some (.slice e)) (hx : ev ρ x = some (.slice A m c)) (hy : ev ρ y = some (.slice none 0 0)) : EV P n ρ w o (.bool A.isNone) := by
  intro a hr
  have hu := td_slice (tyD_ok ht)
  simp only [execOp, ho, hr.ev hx, hr.ev hy]
  have : (Op.equal t (.slice A m c) (.slice none 0 0)).run P w = .ok A.isNone w := by
    unfold Op.equal
    rw [show Op.maxDepth = 9999 + 1 from rfl]
    unfold Op.equalIn
    cases A <;> simp [run_und hu]
  simp [eqGuard, binOp, this]
/-- An empty literal. -/
theorem Ops.bs0 {o : Oper} {d t e sz : Nat} (ho : o.op = .buildSlice t 0 #[]) (hd : o.dst = some d) (hg : o.guard = none) (ht : tyD P t = some (.slice e)) (hs : tyS P e = some sz)
    (hk : ∀ w' r, Mk w w' r (.cells #[] e) → Ops none P n ds all k Φ l ((d, .slice (some ⟨r, 0, none⟩) 0 0) :: ρ) w') : Ops none P n ds all k Φ (o :: l) ρ w := by
  refine Ops.val hd hg (fun a hr => ?_) (hk _ _ (mk_alloc w _))
  have h0 : (Array.range 0 : Array Nat) = #[] := rfl
  simp [execOp, ho, Instr.buildSlice, run_und (td_slice (tyD_ok ht)), run_sizeOf hs, Instr.fill, newRow, newObj, Sem.run, h0]
theorem own_zero {w w' : World} {r e sz : Nat} (h : Mk w w' r (.cells #[] e)) : w'.ownsRow 0 e sz (.slice (some ⟨r, 0, none⟩) 0 0) 0 [] :=
  ⟨by simp, .inr ⟨r, 0, #[], rfl, Nat.zero_le _, h.at_, Nat.le_refl _, by simp [maxLen], by simp, by simp⟩⟩
/-- A struct of two fields of which the second one alone is given. -/
theorem EV.bldS {o : Oper} {t : Nat} {y : Operand} {v z0 z1 : Value} (ho : o.op = .build t #[(1, y)])
    (ht : tyD P t = some (.struct [(0, 1), (1, 1)])) (hz : tyZ P t = some (.agg #[z0, z1])) (hy : ev ρ y = some v) (h2 : v.oneCell' = true) : EV P n ρ w o (.agg #[z0, v]) := by
  intro a hr
  obtain ⟨gs, hu, hm⟩ := td_struct (tyD_ok ht)
  have hsz : ∃ f g, gs = #[f, g] ∧ f.offset = 0 ∧ g.offset = 1 ∧ ((P.info? f.type).map (·.size)).getD 0 = 1 ∧ ((P.info? g.type).map (·.size)).getD 0 = 1 := by
    obtain ⟨L⟩ := gs
    rcases L with _ | ⟨f, _ | ⟨g, _ | ⟨h, r⟩⟩⟩
    · simp at hm
    · simp at hm
    · simp at hm; exact ⟨f, g, rfl, hm.1.1, hm.2.1, hm.1.2, hm.2.2⟩
    · simp at hm
  obtain ⟨f, g, rfl, hf0, hg1, hfs, hgs⟩ := hsz
  have q1 : ∃ i, P.info? f.type = some i ∧ i.size = 1 := by
    cases hi : P.info? f.type with
    | none => rw [hi] at hfs; simp at hfs
    | some i => rw [hi] at hfs; exact ⟨i, rfl, by simpa using hfs⟩
  have q2 : ∃ i, P.info? g.type = some i ∧ i.size = 1 := by
    cases hi : P.info? g.type with
    | none => rw [hi] at hgs; simp at hgs
    | some i => rw [hi] at hgs; exact ⟨i, rfl, by simpa using hgs⟩
  obtain ⟨i1, e1, s1⟩ := q1
  obtain ⟨i2, e2, s2⟩ := q2
  have hcv : v.cells = #[v] := by cases v <;> simp_all [Value.oneCell', Value.cells]
  have hcz : (Value.agg #[z0, z1]).cells = #[z0, z1] := rfl
  simp only [execOp, ho]
  simp [Instr.build, hr.ev hy, run_zeroV hz, run_und hu, sizeOf, typeInfo, e1, e2, s1, s2, hf0, hg1, Instr.fill, hcv, hcz]
/-- A field of an element of a slice of the call's own, written at the end of a drawn region. -/
theorem Ord.wrF {i1 i2 i3 d1 d2 t s' t' f e sz off szf m : Nat} {o1 o2 o3 : Oper} {x y z : Operand} {v u : Value} {i : Int} {cs : List Value}
    (e1 : all[i1]? = some o1) (h1 : o1.op = .indexAddr t x y) (hd1 : o1.dst = some d1) (hg1 : gdB all ρ o1.guard = some true) (e2 : all[i2]? = some o2) (h2 : o2.op = .fieldAddr s' (.tmp d1) f) (hd2 : o2.dst = some d2) (hg2 : ∀ p, gdB all ((d1, .pointer p) :: ρ) o2.guard = some true)
    (e3 : all[i3]? = some o3) (h3 : o3.op = .store t' (.tmp d2) z) (hd3 : o3.dst = none) (hg3 : o3.guard = none)
    (ht : tyD P t = some (.slice e)) (hs : tyS P e = some sz) (hf : fieldOff P s' f = some (off, szf + 1)) (hlt : Nat.blt off sz = true) (hs' : tyS P t' = some 1) (hx : ev ρ x = some v) (hy : ev ρ y = some (.int .i64 i)) (hz : ∀ p q, ev ((d2, q) :: (d1, p) :: ρ) z = some u) (hu1 : u.oneCell' = true)
    (hown : w.ownsRow 0 e sz v m cs) (h0 : 0 ≤ i) (hi : i < m) (hΦ : ∀ c ρ w, ¬ Φ (.panic c) ρ w)
    (hk : ∀ w' p q, w'.ownsRow 0 e sz v m (cs.set (i.toNat * sz + off) u) → Kp (fun b => v.ownBlock = some b) w w' → w'.heap.size = w.heap.size → VW.Ord P n ds all k Φ 9999 (fun _ => True) π (((L.set i1 true).set i2 true).set i3 true) ((d2, q) :: (d1, p) :: ρ) w') : VW.Ord P n ds all k Φ 9999 (fun _ => True) ((i1, 1) :: (i2, 1) :: (i3, 0) :: π) L ρ w := by
  have hlt' : off < sz := by simpa using hlt
  obtain ⟨g, cap, cur, rfl, hb, hcs⟩ := own_blk hown (by omega)
  refine VW.Ord.pure e1 hd1 hg1 rfl hΦ (fun w => EV.idx h1 ht hs hx hy h0 hi) (VW.Ord.pure e2 hd2 (hg2 _) rfl hΦ (fun w => EV.fld h2 hf (ev_top _ _ _)) (VW.Ord.effT e3 ?_))
  rw [add_lit, add_lit, Nat.zero_add]
  have hbd := mul_lt (i := i.toNat) (m := m) (sz := sz) (off := off) (by omega) hlt'
  refine Ops.st h3 hd3 hg3 hs' (ev_top _ _ _) (hz _ _) hu1 hb (by omega) (fun w' hu => Ops.nil (W.endl (hk w' _ _ (own_set hown hb hu) ?_ hu.size)))
  exact hu.kp.mono (fun i _ e => by simp [Value.ownBlock, e])
end
end Go.Proofs.Ytdiljpnfochndaa.VW
namespace Go.Proofs.Ytdiljpnfochndaa
open Go Go.RowKit Go.Proofs.Ytdiljpnfochndaa.VW
open Go.Proofs.Ytdiljpnfochndaa.HP (Nd kid wor leafB rd evB TF)
attribute [local irreducible] W Ops OrdA VW.Ord OrdX
theorem trees_c {w : World} {a b : Value} {x : List Nd} (ha : TreeM w a x) (hb : TreeM w b x) (hl : x.length ≤ 1000) :
    Calls Try.prog 51 #[a, b] w (Ret fun r w' => r = .bool true ∧ Below w.heap.size w w') := by
  obtain ⟨A, c, rfl⟩ := ha.sl
  obtain ⟨B, d, rfl⟩ := hb.sl
  refine calls_W (vs := [_, _]) Try.func51 rfl (by kernel_rfl) rfl ?_
  (repeat (first | with_reducible refine W.seq ?_ | with_reducible refine Ops.nil ?_ | with_reducible refine W.region ?_ | refine z_p (kk := ?_) | refine z_a (kk := ?_) | refine z_y (kk := ?_) | refine z_n (kk := ?_) | refine z_u (kk := ?_) | with_reducible refine W.skip ?_ | with_reducible refine W.endb ?_ | with_reducible refine W.block ?_ | refine W.exit rfl ?_ | refine z_l (kk := ?_) | refine z_f (kk := ?_) | refine z_M (kk := ?_) | refine z_m (kk := ?_) | refine z_e (kk := ?_) | refine z_E (kk := ?_) | refine z_d (kk := ?_) | refine z_I (kk := fun _ => ?_) | refine z_J (kk := fun _ => ?_) | refine z_K (kk := fun _ => ?_) | refine z_L (kk := fun _ => ?_) | refine z_T (kk := ?_) | refine z_F (kk := ?_) | refine z_k (kk := fun _ _ _ _ _ => ?_) | refine z_w (kk := fun _ _ => ?_) | refine z_s (kk := fun _ _ _ _ => ?_) | refine z_D (kk := ?_) | refine z_g (kk := ?_) | refine z_h (kk := ?_)))
  refine W.condF rfl (by first | rfl | assumption | (simp only [bnf] <;> omega) | (simp only [*, bnf]; done) | fail) ?_
  (repeat (first | with_reducible refine W.seq ?_ | with_reducible refine Ops.nil ?_ | with_reducible refine W.region ?_ | refine z_p (kk := ?_) | refine z_a (kk := ?_) | refine z_y (kk := ?_) | refine z_n (kk := ?_) | refine z_u (kk := ?_) | with_reducible refine W.skip ?_ | with_reducible refine W.endb ?_ | with_reducible refine W.block ?_ | refine W.exit rfl ?_ | refine z_l (kk := ?_) | refine z_f (kk := ?_) | refine z_M (kk := ?_) | refine z_m (kk := ?_) | refine z_e (kk := ?_) | refine z_E (kk := ?_) | refine z_d (kk := ?_) | refine z_I (kk := fun _ => ?_) | refine z_J (kk := fun _ => ?_) | refine z_K (kk := fun _ => ?_) | refine z_L (kk := fun _ => ?_) | refine z_T (kk := ?_) | refine z_F (kk := ?_) | refine z_k (kk := fun _ _ _ _ _ => ?_) | refine z_w (kk := fun _ _ => ?_) | refine z_s (kk := fun _ _ _ _ => ?_) | refine z_D (kk := ?_) | refine z_g (kk := ?_) | refine z_h (kk := ?_)))
  refine W.loop (fun m ρ w1 => ∃ (i : Nat), m = x.length - i ∧ i ≤ x.length ∧ ρ = [(0, .slice A x.length c), (1, .slice B x.length d), (5, .int .i64 i)] ∧ Below w.heap.size w w1)
    ⟨_, _, ⟨0, rfl, Nat.zero_le _, rfl, Below.refl _ _⟩, (by repeat (first | exact trivial | refine And.intro rfl ?_))⟩ ?_
  rintro m ρ w1 ⟨i, rfl, hi, rfl, hb1⟩
  (repeat (first | with_reducible refine W.seq ?_ | with_reducible refine Ops.nil ?_ | with_reducible refine W.region ?_ | refine z_p (kk := ?_) | refine z_a (kk := ?_) | refine z_y (kk := ?_) | refine z_n (kk := ?_) | refine z_u (kk := ?_) | with_reducible refine W.skip ?_ | with_reducible refine W.endb ?_ | with_reducible refine W.block ?_ | refine W.exit rfl ?_ | refine z_l (kk := ?_) | refine z_f (kk := ?_) | refine z_M (kk := ?_) | refine z_m (kk := ?_) | refine z_e (kk := ?_) | refine z_E (kk := ?_) | refine z_d (kk := ?_) | refine z_I (kk := fun _ => ?_) | refine z_J (kk := fun _ => ?_) | refine z_K (kk := fun _ => ?_) | refine z_L (kk := fun _ => ?_) | refine z_T (kk := ?_) | refine z_F (kk := ?_) | refine z_k (kk := fun _ _ _ _ _ => ?_) | refine z_w (kk := fun _ _ => ?_) | refine z_s (kk := fun _ _ _ _ => ?_) | refine z_D (kk := ?_) | refine z_g (kk := ?_) | refine z_h (kk := ?_)))
  (first | refine W.condD rfl (fun hc => ?_) (fun hc => ?_) | refine W.condE rfl (fun hc => ?_) (fun hc => ?_) | refine W.condN rfl (fun hc => ?_) (fun hc => ?_) | refine W.cond rfl (fun hc => ?_) (fun hc => ?_))
  · have hil : i < x.length := by omega
    have ha1 := ha.below hb1
    have hb1' := hb.below hb1
    (repeat (first | with_reducible refine W.seq ?_ | with_reducible refine Ops.nil ?_ | with_reducible refine W.region ?_ | refine z_p (kk := ?_) | refine z_a (kk := ?_) | refine z_y (kk := ?_) | refine z_n (kk := ?_) | refine z_u (kk := ?_) | with_reducible refine W.skip ?_ | with_reducible refine W.endb ?_ | with_reducible refine W.block ?_ | refine W.exit rfl ?_ | refine z_l (kk := ?_) | refine z_f (kk := ?_) | refine z_M (kk := ?_) | refine z_m (kk := ?_) | refine z_e (kk := ?_) | refine z_E (kk := ?_) | refine z_d (kk := ?_) | refine z_I (kk := fun _ => ?_) | refine z_J (kk := fun _ => ?_) | refine z_K (kk := fun _ => ?_) | refine z_L (kk := fun _ => ?_) | refine z_T (kk := ?_) | refine z_F (kk := ?_) | refine z_k (kk := fun _ _ _ _ _ => ?_) | refine z_w (kk := fun _ _ => ?_) | refine z_s (kk := fun _ _ _ _ => ?_) | refine z_D (kk := ?_) | refine z_g (kk := ?_) | refine z_h (kk := ?_)))
    refine W.ordA 99 [(0, 1), (1, 1), (2, 1), (3, 1), (4, 2), (5, 1), (6, 1), (7, 1), (8, 1), (9, 2), (10, 1), (11, 1), (12, 1), (13, 1), (14, 1), (15, 1), (16, 2), (17, 1), (18, 1), (19, 1), (20, 1), (21, 2), (22, 2), (23, 1), (24, 1)] rfl (by kernel_rfl) rfl (by kernel_rfl) (fun _ _ _ h => h) ?_
    (repeat (first | refine x_p (kk := ?_) | refine x_n (kk := ?_) | refine x_a (kk := ?_) | refine x_l (kk := ?_) | refine x_M (kk := ?_) | refine x_m (kk := ?_) | refine x_e (kk := ?_) | refine x_E (kk := ?_) | refine x_T (kk := ?_) | refine x_F (kk := ?_) | refine x_I (kk := fun _ => ?_) | refine x_J (kk := fun _ => ?_) | refine x_K (kk := fun _ => ?_) | refine x_L (kk := fun _ => ?_) | refine x_k (kk := fun _ _ _ _ _ => ?_) | refine x_w (kk := fun _ _ => ?_) | refine x_s (kk := fun _ _ _ _ => ?_)))
    (first | refine x_t (kk := ?_) | refine x_f (kk := ?_))
    (repeat (first | refine x_p (kk := ?_) | refine x_n (kk := ?_) | refine x_a (kk := ?_) | refine x_l (kk := ?_) | refine x_M (kk := ?_) | refine x_m (kk := ?_) | refine x_e (kk := ?_) | refine x_E (kk := ?_) | refine x_T (kk := ?_) | refine x_F (kk := ?_) | refine x_I (kk := fun _ => ?_) | refine x_J (kk := fun _ => ?_) | refine x_K (kk := fun _ => ?_) | refine x_L (kk := fun _ => ?_) | refine x_k (kk := fun _ _ _ _ _ => ?_) | refine x_w (kk := fun _ _ => ?_) | refine x_s (kk := fun _ _ _ _ => ?_)))
    rename_i h1 _ _ _ _ h2
    refine OrdA.call rfl rfl rfl rfl rfl rfl rfl (v := .bool true) (fun w' hw' => (ints_c (Sl.below h1 (Below.via (Below.refl _ _) hw')) (Sl.below h2 hw')).mono fun e w'' ⟨v, he, hv, hb⟩ => ⟨v, he, by rw [hv]; simp, Below.via hw' hb⟩) ?_
    (repeat (first | refine x_p (kk := ?_) | refine x_n (kk := ?_) | refine x_a (kk := ?_) | refine x_l (kk := ?_) | refine x_M (kk := ?_) | refine x_m (kk := ?_) | refine x_e (kk := ?_) | refine x_E (kk := ?_) | refine x_T (kk := ?_) | refine x_F (kk := ?_) | refine x_I (kk := fun _ => ?_) | refine x_J (kk := fun _ => ?_) | refine x_K (kk := fun _ => ?_) | refine x_L (kk := fun _ => ?_) | refine x_k (kk := fun _ _ _ _ _ => ?_) | refine x_w (kk := fun _ _ => ?_) | refine x_s (kk := fun _ _ _ _ => ?_)))
    refine OrdA.nil (fun w2 hb2 => ?_)
    have hb02 := Below.via hb1 hb2
    (repeat (first | with_reducible refine W.seq ?_ | with_reducible refine Ops.nil ?_ | with_reducible refine W.region ?_ | refine z_p (kk := ?_) | refine z_a (kk := ?_) | refine z_y (kk := ?_) | refine z_n (kk := ?_) | refine z_u (kk := ?_) | with_reducible refine W.skip ?_ | with_reducible refine W.endb ?_ | with_reducible refine W.block ?_ | refine W.exit rfl ?_ | refine z_l (kk := ?_) | refine z_f (kk := ?_) | refine z_M (kk := ?_) | refine z_m (kk := ?_) | refine z_e (kk := ?_) | refine z_E (kk := ?_) | refine z_d (kk := ?_) | refine z_I (kk := fun _ => ?_) | refine z_J (kk := fun _ => ?_) | refine z_K (kk := fun _ => ?_) | refine z_L (kk := fun _ => ?_) | refine z_T (kk := ?_) | refine z_F (kk := ?_) | refine z_k (kk := fun _ _ _ _ _ => ?_) | refine z_w (kk := fun _ _ => ?_) | refine z_s (kk := fun _ _ _ _ => ?_) | refine z_D (kk := ?_) | refine z_g (kk := ?_) | refine z_h (kk := ?_)))
    refine W.condF rfl (by first | rfl | assumption | (simp only [bnf] <;> omega) | (simp only [*, bnf]; done) | fail) ?_
    (repeat (first | with_reducible refine W.seq ?_ | with_reducible refine Ops.nil ?_ | with_reducible refine W.region ?_ | refine z_p (kk := ?_) | refine z_a (kk := ?_) | refine z_y (kk := ?_) | refine z_n (kk := ?_) | refine z_u (kk := ?_) | with_reducible refine W.skip ?_ | with_reducible refine W.endb ?_ | with_reducible refine W.block ?_ | refine W.exit rfl ?_ | refine z_l (kk := ?_) | refine z_f (kk := ?_) | refine z_M (kk := ?_) | refine z_m (kk := ?_) | refine z_e (kk := ?_) | refine z_E (kk := ?_) | refine z_d (kk := ?_) | refine z_I (kk := fun _ => ?_) | refine z_J (kk := fun _ => ?_) | refine z_K (kk := fun _ => ?_) | refine z_L (kk := fun _ => ?_) | refine z_T (kk := ?_) | refine z_F (kk := ?_) | refine z_k (kk := fun _ _ _ _ _ => ?_) | refine z_w (kk := fun _ _ => ?_) | refine z_s (kk := fun _ _ _ _ => ?_) | refine z_D (kk := ?_) | refine z_g (kk := ?_) | refine z_h (kk := ?_)))
    exact W.endl ⟨_, _, ⟨⟨i + 1, rfl, by omega, rfl, hb02⟩, by omega⟩, (by repeat (first | exact trivial | refine And.intro rfl ?_))⟩
  · (repeat (first | with_reducible refine W.seq ?_ | with_reducible refine Ops.nil ?_ | with_reducible refine W.region ?_ | refine z_p (kk := ?_) | refine z_a (kk := ?_) | refine z_y (kk := ?_) | refine z_n (kk := ?_) | refine z_u (kk := ?_) | with_reducible refine W.skip ?_ | with_reducible refine W.endb ?_ | with_reducible refine W.block ?_ | refine W.exit rfl ?_ | refine z_l (kk := ?_) | refine z_f (kk := ?_) | refine z_M (kk := ?_) | refine z_m (kk := ?_) | refine z_e (kk := ?_) | refine z_E (kk := ?_) | refine z_d (kk := ?_) | refine z_I (kk := fun _ => ?_) | refine z_J (kk := fun _ => ?_) | refine z_K (kk := fun _ => ?_) | refine z_L (kk := fun _ => ?_) | refine z_T (kk := ?_) | refine z_F (kk := ?_) | refine z_k (kk := fun _ _ _ _ _ => ?_) | refine z_w (kk := fun _ _ => ?_) | refine z_s (kk := fun _ _ _ _ => ?_) | refine z_D (kk := ?_) | refine z_g (kk := ?_) | refine z_h (kk := ?_)))
    exact W.fret rfl ⟨rfl, hb1⟩
end Go.Proofs.Ytdiljpnfochndaa
/- Values in bounds; and that there are values. -/
namespace Go.Proofs.Ytdiljpnfochndaa.HP
theorem val_bd {l : List Nd} {dep : List Int} (hT : TF l dep) {wf : Int → Int} {vs : List Int} (hv : ValP l dep wf vs) {lo hi : Int} (h : ∀ i : Nat, i < l.length → leafB l i = true → lo ≤ wf i ∧ wf i ≤ hi) : ∀ j : Nat, j < l.length → lo ≤ vs.getD j 0 ∧ vs.getD j 0 ≤ hi := by
  refine tree_ind hT (Q := fun j => lo ≤ vs.getD j 0 ∧ vs.getD j 0 ≤ hi) fun j hj hk => ?_
  have kD : ∀ x ∈ kid l j, lo ≤ rd vs x ∧ rd vs x ≤ hi := fun x hx => by obtain ⟨i, rfl, hi, h⟩ := hk x hx; exact h
  rw [hv.at_ j hj]
  unfold NV
  by_cases hl : leafB l j = true
  · rw [if_pos hl]; exact h j hj hl
  · have hne := leaf_ne hl
    obtain ⟨c, hc⟩ := List.exists_mem_of_ne_nil _ hne
    rw [if_neg hl]
    by_cases he : evB dep j = true
    · rw [if_pos he, maxL_ge hne, maxL_le hne]
      exact ⟨⟨c, hc, (kD c hc).1⟩, fun x hx => (kD x hx).2⟩
    · rw [if_neg he, minL_ge hne, minL_le hne]
      exact ⟨fun x hx => (kD x hx).1, ⟨c, hc, (kD c hc).2⟩⟩
theorem val_ex {l : List Nd} {dep : List Int} (hT : TF l dep) (wf : Int → Int) : ∃ vs, ValP l dep wf vs := by
  have key : ∀ d q : Nat, l.length - q = d → q ≤ l.length → ∃ os : List Int, os.length = l.length ∧ ∀ j : Nat, q ≤ j → j < l.length → os.getD j 0 = NV l dep wf os j := by
    intro d
    induction d with
    | zero => intro q hd hq; exact ⟨List.replicate l.length 0, by simp, fun j h1 h2 => by omega⟩
    | succ d ih =>
      intro q hd hq
      obtain ⟨os, h1, h2⟩ := ih (q + 1) (by omega) (by omega)
      exact ⟨os.set q (NV l dep wf os q), by simp [h1], val_set hT (by omega) h1 rfl h2⟩
  obtain ⟨os, h1, h2⟩ := key _ 0 rfl (Nat.zero_le _)
  exact ⟨os, h1, fun j hj => h2 j (Nat.zero_le _) hj⟩
theorem wor_bd {l : List Nd} {dep : List Int} (hT : TF l dep) {vs : List Int} (hv : ValP l dep (wor l) vs) : -100 ≤ vs.getD 0 0 ∧ vs.getD 0 0 ≤ 100 :=
  val_bd hT hv (fun i hi _ => ⟨(hT.wor i hi).1, (hT.wor i hi).2.1⟩) 0 (by have := hT.n1; omega)
end Go.Proofs.Ytdiljpnfochndaa.HP
/- The line of best moves. -/
namespace Go.Proofs.Ytdiljpnfochndaa.HP
def bestM' (vs : List Int) (x : Int) : List Int → Int
  | [] => -1
  | c :: r => if rd vs c = x then c else bestM' vs x r
theorem bestM_mem {vs : List Int} {x : Int} : ∀ {cs : List Int}, (∃ c ∈ cs, rd vs c = x) → bestM' vs x cs ∈ cs ∧ rd vs (bestM' vs x cs) = x
  | [], ⟨c, hc, _⟩ => by simp at hc
  | c :: r, ⟨d, hd, he⟩ => by
    simp only [bestM']
    split
    · rename_i h; exact ⟨by simp, h⟩
    · rename_i h
      have := bestM_mem (cs := r) ⟨d, by rcases List.mem_cons.1 hd with rfl | hd; exact absurd he h; exact hd, he⟩
      exact ⟨by simp [this.1], this.2⟩
theorem maxL_mem {cs : List Int} {g : Int → Int} (h : cs ≠ []) : ∃ c ∈ cs, g c = maxL (cs.map g) := by
  obtain ⟨c, hc, h1⟩ := (maxL_ge (g := g) (b := maxL (cs.map g)) h).1 (Int.le_refl _)
  exact ⟨c, hc, Int.le_antisymm ((maxL_le h).1 (Int.le_refl _) c hc) h1⟩
theorem minL_mem {cs : List Int} {g : Int → Int} (h : cs ≠ []) : ∃ c ∈ cs, g c = minL (cs.map g) := by
  obtain ⟨c, hc, h1⟩ := (minL_le (g := g) (b := minL (cs.map g)) h).1 (Int.le_refl _)
  exact ⟨c, hc, Int.le_antisymm h1 ((minL_ge h).1 (Int.le_refl _) c hc)⟩
theorem val_att {l : List Nd} {dep : List Int} {wf : Int → Int} {vs : List Int} (hv : ValP l dep wf vs) {i : Nat} (hi : i < l.length) (hl : leafB l i = false) : ∃ c ∈ kid l i, rd vs c = rd vs i := by
  have hne : kid l i ≠ [] := leaf_ne (by rw [hl]; simp)
  have h := hv.at_ i hi
  unfold NV at h
  rw [hl] at h
  simp only [Bool.false_eq_true, if_false] at h
  show ∃ c ∈ kid l i, rd vs c = vs.getD (i : Int).toNat 0
  rw [Int.toNat_natCast, h]
  split
  · exact maxL_mem hne
  · exact minL_mem hne
/-- The k-th node of the line. -/
def lineN (l : List Nd) (vs : List Int) : Nat → Int
  | 0 => 0
  | k + 1 => bestM' vs (rd vs (lineN l vs k)) (kid l (lineN l vs k))
def LineS (l : List Nd) (vs out : List Int) : Prop := ∃ k, out = (List.range (k + 1)).map (lineN l vs) ∧ (∀ j, j < k → leafB l (lineN l vs j) = false) ∧ leafB l (lineN l vs k) = true
theorem LineS.uniq {l : List Nd} {vs a b : List Int} (ha : LineS l vs a) (hb : LineS l vs b) : a = b := by
  obtain ⟨k, rfl, h1, h2⟩ := ha
  obtain ⟨m, rfl, h3, h4⟩ := hb
  rcases Nat.lt_trichotomy k m with h | h | h
  · rw [h3 k h] at h2; cases h2
  · rw [h]
  · rw [h1 m h] at h4; cases h4
theorem line_step {l : List Nd} {dep : List Int} {wf : Int → Int} {vs : List Int} (hT : TF l dep) (hv : ValP l dep wf vs) {k : Nat} {i : Nat} (hk : lineN l vs k = i) (hi : i < l.length) (hl : leafB l i = false) :
    ∃ j : Nat, lineN l vs (k + 1) = j ∧ i < j ∧ j < l.length ∧ vs.getD j 0 = vs.getD i 0 := by
  have h := bestM_mem (val_att hv hi hl)
  obtain ⟨h1, h2⟩ := mem_kid hT hi h.1
  refine ⟨(bestM' vs (rd vs i) (kid l i)).toNat, ?_, by omega, by omega, ?_⟩
  · show bestM' vs (rd vs (lineN l vs k)) (kid l (lineN l vs k)) = _
    rw [hk]; omega
  · have h3 := h.2
    simp only [rd, Int.toNat_natCast] at h3 ⊢
    exact h3
theorem range_snoc (f : Nat → Int) (k : Nat) : (List.range (k + 1 + 1)).map f = (List.range (k + 1)).map f ++ [f (k + 1)] := by
  rw [List.range_succ, List.map_append]; rfl
end Go.Proofs.Ytdiljpnfochndaa.HP
/- Plans. -/
namespace Go.Proofs.Ytdiljpnfochndaa.HP
/-- Before node i: which nodes are reached, and the plan so far. -/
structure PI (l : List Nd) (dep : List Int) (ch : Int → Int) (i : Nat) (f : Int → Bool) (out : List Int) : Prop where
  r0 : f 0 = true
  step : ∀ a b : Nat, a < i → b < (kid l a).length → f (k_ l a b) = (f a && (!evB dep a || decide (k_ l a b = ch a)))
  only : ∀ c : Int, f c = true → c = 0 ∨ ∃ a b : Nat, a < i ∧ b < (kid l a).length ∧ k_ l a b = c
  len : out.length = l.length
  done : ∀ j : Nat, j < i → out.getD j 0 = if f j && evB dep j && !leafB l j then ch j else -1
  rest : ∀ j : Nat, i ≤ j → j < l.length → out.getD j 0 = -1
def PlanS (l : List Nd) (dep : List Int) (ch : Int → Int) (f : Int → Bool) (out : List Int) : Prop := PI l dep ch l.length f out
theorem PI.start (l : List Nd) (dep : List Int) (ch : Int → Int) : PI l dep ch 0 (fun k => k == 0) (List.replicate l.length (-1)) :=
  ⟨rfl, fun a b h => by omega, fun c h => .inl (by simpa using h), by simp, fun j h => by omega, fun j _ h => by simp [List.getD_eq_getElem?_getD, h]⟩
theorem kid_mem_at {l : List Nd} {i : Nat} {c : Int} (h : c ∈ kid l i) : ∃ b : Nat, b < (kid l i).length ∧ k_ l i b = c := by
  obtain ⟨b, hb, e⟩ := kid_at h
  exact ⟨b, hb, e⟩
/-- A kid of node i is not reached before. -/
theorem PI.fresh {l : List Nd} {dep : List Int} {ch : Int → Int} {i : Nat} {f : Int → Bool} {out : List Int} (h : PI l dep ch i f out) (hT : TF l dep) (hi : i < l.length) {b : Nat} (hb : b < (kid l i).length) : f (k_ l i b) = false := by
  have hk := hT.kin i b hi hb
  cases hf : f (k_ l i b) with
  | false => rfl
  | true =>
    rcases h.only _ hf with e | ⟨a, b', ha, hb', e⟩
    · omega
    · have := (hT.inj a b' i b (by omega) hb' hi hb e).1
      omega
theorem PI.skip {l : List Nd} {dep : List Int} {ch : Int → Int} {i : Nat} {f : Int → Bool} {out : List Int} (h : PI l dep ch i f out) (hT : TF l dep) (hi : i < l.length) (hs : f i = false ∨ leafB l i = true) : PI l dep ch (i + 1) f out := by
  refine ⟨h.r0, fun a b ha hb => ?_, fun c hc => ?_, h.len, fun j hj => ?_, fun j h1 h2 => h.rest j (by omega) h2⟩
  · by_cases e : a = i
    · subst e
      rw [h.fresh hT hi hb]
      rcases hs with hs | hs
      · rw [hs]; rfl
      · have : kid l a = [] := by unfold leafB at hs; simpa using hs
        rw [this] at hb; simp at hb
    · exact h.step a b (by omega) hb
  · rcases h.only c hc with e | ⟨a, b, ha, hb, e⟩
    · exact .inl e
    · exact .inr ⟨a, b, by omega, hb, e⟩
  · by_cases e : j = i
    · subst e
      rw [h.rest j (Nat.le_refl _) hi, if_neg]
      rcases hs with hs | hs <;> simp [hs]
    · exact h.done j (by omega)
theorem PI.max {l : List Nd} {dep : List Int} {ch : Int → Int} {i : Nat} {f : Int → Bool} {out : List Int} (h : PI l dep ch i f out) (hT : TF l dep) (hi : i < l.length) (hf : f i = true) (hl : leafB l i = false) (he : evB dep i = true) (hc : ch i ∈ kid l i) :
    PI l dep ch (i + 1) (fun k => f k || k == ch i) (out.set i (ch i)) := by
  obtain ⟨b0, hb0, e0⟩ := kid_mem_at hc
  have hk0 := hT.kin i b0 hi hb0
  have hol := h.len
  have hne : ∀ j : Nat, j ≤ i → ((j : Int) == ch i) = false := fun j hj => by simp; omega
  have hfr : ∀ {b : Nat}, b < (kid l i).length → f (k_ l i b) = false := fun hb => h.fresh hT hi hb
  refine ⟨by simp [h.r0], fun a b ha hb => ?_, fun c hc' => ?_, by simp [hol], fun j hj => ?_, fun j h1 h2 => ?_⟩
  · by_cases e : a = i
    · subst e
      rw [hfr hb, hne a (Nat.le_refl _), hf, he]
      simp
      rfl
    · have hka := hT.kin a b (by omega) hb
      have hk1 : (k_ l a b == ch i) = false := by
        simp only [beq_eq_false_iff_ne]
        intro e2
        exact e (hT.inj a b i b0 (by omega) hb hi hb0 (by omega)).1
      rw [hk1, hne a (by omega), Bool.or_false, Bool.or_false]
      exact h.step a b (by omega) hb
  · simp only [Bool.or_eq_true, beq_iff_eq] at hc'
    rcases hc' with hc' | hc'
    · rcases h.only c hc' with e | ⟨a, b, ha, hb, e⟩
      · exact .inl e
      · exact .inr ⟨a, b, by omega, hb, e⟩
    · exact .inr ⟨i, b0, by omega, hb0, by rw [e0, hc']⟩
  · rw [hne j (by omega), Bool.or_false]
    by_cases e : i = j
    · subst e
      rw [getD_set_eq (by omega), hf, he, hl]; rfl
    · rw [getD_set_ne e]; exact h.done j (by omega)
  · rw [getD_set_ne (by omega)]; exact h.rest j (by omega) h2
theorem PI.min {l : List Nd} {dep : List Int} {ch : Int → Int} {i : Nat} {f g : Int → Bool} {out : List Int} (h : PI l dep ch i f out) (hT : TF l dep) (hi : i < l.length) (hf : f i = true) (he : evB dep i = false) (hg : ∀ k, g k = (f k || decide (∃ b : Nat, b < (kid l i).length ∧ k_ l i b = k))) : PI l dep ch (i + 1) g out := by
  have hne : ∀ j : Nat, j ≤ i → ¬ ∃ b : Nat, b < (kid l i).length ∧ k_ l i b = j := fun j hj ⟨b, hb, e⟩ => by have := hT.kin i b hi hb; omega
  have hgj : ∀ j : Nat, j ≤ i → g j = f j := fun j hj => by rw [hg, decide_eq_false (hne j hj), Bool.or_false]
  refine ⟨by have := hgj 0 (by omega); simpa [h.r0] using this, fun a b ha hb => ?_, fun c hc' => ?_, h.len, fun j hj => ?_, fun j h1 h2 => h.rest j (by omega) h2⟩
  · rw [hgj a (by omega)]
    by_cases e : a = i
    · subst e
      rw [hg, decide_eq_true ⟨b, hb, rfl⟩, hf, he]
      simp
    · have hk1 : ¬ ∃ b' : Nat, b' < (kid l i).length ∧ k_ l i b' = k_ l a b := fun ⟨b', hb', e2⟩ => e (hT.inj i b' a b hi hb' (by omega) hb e2).1.symm
      rw [hg, decide_eq_false hk1, Bool.or_false]
      exact h.step a b (by omega) hb
  · rw [hg] at hc'
    simp only [Bool.or_eq_true, decide_eq_true_eq] at hc'
    rcases hc' with hc' | ⟨b, hb, e⟩
    · rcases h.only c hc' with e | ⟨a, b, ha, hb, e⟩
      · exact .inl e
      · exact .inr ⟨a, b, by omega, hb, e⟩
    · exact .inr ⟨i, b, by omega, hb, e⟩
  · rw [hgj j (by omega)]
    by_cases e : j = i
    · subst e
      rw [h.rest j (Nat.le_refl _) hi, if_neg (by simp [he])]
    · exact h.done j (by omega)
/-- Reached nodes are determined. -/
theorem PlanS.reach {l : List Nd} {dep : List Int} {ch : Int → Int} {f g : Int → Bool} {out out' : List Int} (hT : TF l dep) (h : PlanS l dep ch f out) (h' : PlanS l dep ch g out') : ∀ i : Nat, i < l.length → f i = g i := by
  intro i
  induction i using Nat.strongRecOn with
  | _ i ih =>
    intro hi
    by_cases e : i = 0
    · subst e
      have h1 := h.r0
      have h2 := h'.r0
      rw [show ((0 : Nat) : Int) = 0 from rfl, h1, h2]
    · obtain ⟨a, b, ha, hb, hk⟩ := hT.cov i (by omega) hi
      have hka := hT.kin a b ha hb
      have h1 := h.step a b ha hb
      have h2 := h'.step a b ha hb
      rw [hk] at h1 h2
      rw [h1, h2, ih a (by omega) ha]
theorem PlanS.uniq {l : List Nd} {dep : List Int} {ch : Int → Int} {f g : Int → Bool} {out out' : List Int} (hT : TF l dep) (h : PlanS l dep ch f out) (h' : PlanS l dep ch g out') : out = out' := by
  apply List.ext_getElem (by rw [h.len, h'.len])
  intro j h1 h2
  have hj : j < l.length := by rw [← h.len]; exact h1
  have e1 := h.done j hj
  have e2 := h'.done j hj
  rw [h.reach hT h' j hj] at e1
  rw [← e2] at e1
  simpa [List.getD_eq_getElem?_getD, h1, h2] using e1
end Go.Proofs.Ytdiljpnfochndaa.HP
/- How many plans: sums and products that stay small. -/
namespace Go.Proofs.Ytdiljpnfochndaa.HP
def prodL : List Int → Int
  | [] => 1
  | x :: r => x * prodL r
theorem prodL_snoc : ∀ (l : List Int) (z : Int), prodL (l ++ [z]) = prodL l * z
  | [], z => by simp [prodL]
  | x :: r, z => by simp only [List.cons_append, prodL]; rw [prodL_snoc r z, Int.mul_assoc]
theorem sumL_snoc : ∀ (l : List Int) (z : Int), sumL (l ++ [z]) = sumL l + z
  | [], z => by simp [sumL]
  | x :: r, z => by simp only [List.cons_append, sumL]; rw [sumL_snoc r z]; omega
def PLN (l : List Nd) (dep : List Int) (b : Int) (ps : List Int) (j : Int) : Int :=
  if leafB l j then (if b ≤ wor l j then 1 else 0) else if evB dep j then sumL ((kid l j).map (rd ps)) else prodL ((kid l j).map (rd ps))
structure PlsP (l : List Nd) (dep : List Int) (b : Int) (ps : List Int) : Prop where
  len : ps.length = l.length
  at_ : ∀ j : Nat, j < l.length → ps.getD j 0 = PLN l dep b ps j
theorem PLN_congr {l : List Nd} {dep : List Int} (h : TF l dep) {i : Nat} (hi : i < l.length) {b : Int} {vs us : List Int} (he : ∀ j : Nat, i < j → j < l.length → vs.getD j 0 = us.getD j 0) : PLN l dep b vs i = PLN l dep b us i := by
  unfold PLN
  rw [map_rd_congr h hi he]
theorem pls_set {l : List Nd} {dep : List Int} (h : TF l dep) {b : Int} {os : List Int} {q : Nat} (hq : q < l.length) (hol : os.length = l.length) {x : Int} (hx : x = PLN l dep b os q) (hval : ∀ j : Nat, q + 1 ≤ j → j < l.length → os.getD j 0 = PLN l dep b os j) :
    ∀ j : Nat, q ≤ j → j < l.length → (os.set q x).getD j 0 = PLN l dep b (os.set q x) j := by
  intro j h1 h2
  have hc : PLN l dep b (os.set q x) j = PLN l dep b os j := PLN_congr h h2 fun i hi hil => getD_set_ne (by omega)
  rw [hc]
  by_cases e : q = j
  · subst e; rw [getD_set_eq (by omega)]; exact hx
  · rw [getD_set_ne e]; exact hval j (by omega) h2
theorem PlsP.uniq {l : List Nd} {dep : List Int} (h : TF l dep) {b : Int} {vs us : List Int} (hv : PlsP l dep b vs) (hu : PlsP l dep b us) : vs = us := by
  have key : ∀ d j : Nat, l.length - j = d → j < l.length → vs.getD j 0 = us.getD j 0 := by
    intro d
    induction d using Nat.strongRecOn with
    | _ d ih =>
      intro j hd hj
      rw [hv.at_ j hj, hu.at_ j hj]
      exact PLN_congr h hj fun q hq hql => ih (l.length - q) (by omega) q rfl hql
  apply List.ext_getElem (by rw [hv.len, hu.len])
  intro j h1 h2
  have := key _ j rfl (by rw [← hv.len]; exact h1)
  simpa [List.getD_eq_getElem?_getD, h1, h2] using this
/-! ### Leaves below -/
def LN (l : List Nd) (es : List Ef) (j : Int) : Ef := if leafB l j then (1, [j]) else (kid l j).foldl (joinF es) (0, [])
theorem join_congr {es us : List Ef} : ∀ (cs : List Int) (a : Ef), (∀ c ∈ cs, ed es c = ed us c) → cs.foldl (joinF es) a = cs.foldl (joinF us) a
  | [], _, _ => rfl
  | c :: r, a, h => by
    have hj : joinF es a c = joinF us a c := by unfold joinF; rw [h c (by simp)]
    rw [List.foldl_cons, List.foldl_cons, hj]
    exact join_congr r _ fun x hx => h x (by simp [hx])
theorem LN_congr {l : List Nd} {dep : List Int} (h : TF l dep) {i : Nat} (hi : i < l.length) {es us : List Ef} (he : ∀ j : Nat, i < j → j < l.length → es.getD j (0, []) = us.getD j (0, [])) : LN l es i = LN l us i := by
  unfold LN
  rw [join_congr (es := es) (us := us) (kid l i) _ fun c hc => by
    obtain ⟨h1, h2⟩ := mem_kid h hi hc
    exact he c.toNat (by omega) (by omega)]
theorem efset_eq {dep : List Ef} {c : Nat} {x : Ef} (h : c < dep.length) : (dep.set c x).getD c (0, []) = x := by
  rw [List.getD_eq_getElem?_getD, List.getElem?_set_self h]; rfl
theorem efset_ne {dep : List Ef} {c d : Nat} {x : Ef} (h : c ≠ d) : (dep.set c x).getD d (0, []) = dep.getD d (0, []) := by
  rw [List.getD_eq_getElem?_getD, List.getElem?_set_ne h, ← List.getD_eq_getElem?_getD]
theorem leaves_ex {l : List Nd} {dep : List Int} (hT : TF l dep) : ∃ es : List Ef, ∀ j : Nat, j < l.length → es.getD j (0, []) = LN l es j := by
  have key : ∀ d q : Nat, l.length - q = d → q ≤ l.length → ∃ os : List Ef, os.length = l.length ∧ ∀ j : Nat, q ≤ j → j < l.length → os.getD j (0, []) = LN l os j := by
    intro d
    induction d with
    | zero => intro q hd hq; exact ⟨List.replicate l.length (0, []), by simp, fun j h1 h2 => by omega⟩
    | succ d ih =>
      intro q hd hq
      obtain ⟨os, h1, h2⟩ := ih (q + 1) (by omega) (by omega)
      refine ⟨os.set q (LN l os q), by simp [h1], fun j h3 h4 => ?_⟩
      have hc : LN l (os.set q (LN l os q)) j = LN l os j := LN_congr hT h4 fun i hi hil => efset_ne (by omega)
      rw [hc]
      by_cases e : q = j
      · subst e; rw [efset_eq (by omega)]
      · rw [efset_ne e]; exact h2 j (by omega) h4
  obtain ⟨os, h1, h2⟩ := key _ 0 rfl (Nat.zero_le _)
  exact ⟨os, fun j hj => h2 j (Nat.zero_le _) hj⟩
def lenS (es : List Ef) : List Int → Nat
  | [] => 0
  | c :: r => (ed es c).2.length + lenS es r
theorem join_lenS {es : List Ef} : ∀ (cs : List Int) (a : Ef), (cs.foldl (joinF es) a).2.length = a.2.length + lenS es cs
  | [], _ => rfl
  | c :: r, a => by
    rw [List.foldl_cons, join_lenS r]
    simp only [joinF, List.length_append, lenS]
    omega
theorem lenS_take {es : List Ef} : ∀ (cs : List Int) (t : Nat), lenS es (cs.take t) ≤ lenS es cs
  | [], t => by simp [lenS]
  | c :: r, 0 => by simp [lenS]
  | c :: r, t + 1 => by simp only [List.take_succ_cons, lenS]; have := lenS_take (es := es) r t; omega
theorem pow_ge (n : Nat) : (1 : Int) ≤ 2 ^ n := by
  have : (1 : Int) ≤ ((2 ^ n : Nat) : Int) := by have := Nat.one_le_two_pow (n := n); omega
  simpa using this
theorem mul_ge {A B : Int} (ha : 1 ≤ A) (hb : 1 ≤ B) : A + B ≤ A * B + 1 := by
  have h := Int.mul_nonneg (show (0 : Int) ≤ A - 1 by omega) (show (0 : Int) ≤ B - 1 by omega)
  rw [Int.sub_mul, Int.mul_sub, Int.mul_sub] at h
  omega
theorem sum_pow {es : List Ef} {x : Int → Int} : ∀ (cs : List Int), (∀ c ∈ cs, 0 ≤ x c ∧ x c + 1 ≤ 2 ^ (ed es c).2.length) → 0 ≤ sumL (cs.map x) ∧ sumL (cs.map x) + 1 ≤ 2 ^ lenS es cs
  | [], _ => by simp [sumL, lenS]
  | c :: r, h => by
    have h1 := h c (by simp)
    have h2 := sum_pow r fun y hy => h y (by simp [hy])
    have h3 := mul_ge (pow_ge (ed es c).2.length) (pow_ge (lenS es r))
    simp only [List.map_cons, sumL, lenS, Int.pow_add]
    omega
theorem prod_pow {es : List Ef} {x : Int → Int} : ∀ (cs : List Int), cs ≠ [] → (∀ c ∈ cs, 0 ≤ x c ∧ x c + 1 ≤ 2 ^ (ed es c).2.length) → 0 ≤ prodL (cs.map x) ∧ prodL (cs.map x) + 1 ≤ 2 ^ lenS es cs
  | [], h, _ => absurd rfl h
  | [c], _, h => by
    have h1 := h c (by simp)
    simp only [List.map_cons, List.map_nil, prodL, lenS, Int.mul_one, Nat.add_zero]
    exact h1
  | c :: d :: r, _, h => by
    have h1 := h c (by simp)
    have h2 := prod_pow (d :: r) (by simp) fun y hy => h y (by simp [List.mem_cons.1 hy])
    generalize hM : prodL ((d :: r).map x) = M at *
    generalize hB : lenS es (d :: r) = B at *
    have e1 : prodL ((c :: d :: r).map x) = x c * M := by rw [← hM]; rfl
    have e2 : lenS es (c :: d :: r) = (ed es c).2.length + B := by rw [← hB]; rfl
    rw [e1, e2, Int.pow_add]
    have p1 := pow_ge (ed es c).2.length
    have p2 := pow_ge B
    have h3 := mul_ge p1 p2
    generalize (2 : Int) ^ (ed es c).2.length = A at *
    generalize (2 : Int) ^ B = C at *
    have h4 : x c * M ≤ (A - 1) * (C - 1) := Int.mul_le_mul (by omega) (by omega) h2.1 (by omega)
    rw [Int.sub_mul, Int.mul_sub, Int.mul_sub] at h4
    exact ⟨Int.mul_nonneg h1.1 h2.1, by omega⟩
/-- Numbers of plans are small, and so are what they are summed up and multiplied from. -/
theorem pls_small {l : List Nd} {dep : List Int} (hT : TF l dep) {b : Int} {q : Nat} {ps : List Int} (hval : ∀ j : Nat, q ≤ j → j < l.length → ps.getD j 0 = PLN l dep b ps j) {es : List Ef} (hes : ∀ j : Nat, j < l.length → es.getD j (0, []) = LN l es j) :
    ∀ j : Nat, j < l.length → q ≤ j → GoodE l j (es.getD j (0, [])).2 ∧ 0 ≤ ps.getD j 0 ∧ ps.getD j 0 + 1 ≤ 2 ^ (es.getD j (0, [])).2.length := by
  refine tree_ind hT (Q := fun j => q ≤ j → GoodE l j (es.getD j (0, [])).2 ∧ 0 ≤ ps.getD j 0 ∧ ps.getD j 0 + 1 ≤ 2 ^ (es.getD j (0, [])).2.length) fun j hj hk hq => ?_
  have kD : ∀ c ∈ kid l j, GoodE l c (ed es c).2 ∧ 0 ≤ rd ps c ∧ rd ps c + 1 ≤ 2 ^ (ed es c).2.length := fun c hc => by
    obtain ⟨h1, _⟩ := mem_kid hT hj hc
    obtain ⟨i, rfl, hi, h⟩ := hk c hc
    exact h (by omega)
  rw [hes j hj, hval j hq hj]
  unfold LN PLN
  by_cases hl : leafB l j = true
  · rw [if_pos hl, if_pos hl]
    refine ⟨⟨fun x hx => ?_, by simp⟩, by split <;> omega, by simp; split <;> omega⟩
    simp at hx
    subst hx
    exact ⟨by omega, by omega, hl, 0, rfl⟩
  · have hne := leaf_ne hl
    have hg := (good_join hT hj (fun c hc => (kD c hc).1) (kid l j).length (Nat.le_refl _)).1
    rw [List.take_length] at hg
    rw [if_neg hl, if_neg hl]
    refine ⟨hg, ?_⟩
    rw [join_lenS]
    simp only [List.length_nil, Nat.zero_add]
    split
    · exact sum_pow _ fun c hc => (kD c hc).2
    · exact prod_pow _ hne fun c hc => (kD c hc).2
theorem pow60 {n : Nat} (h : n ≤ 60) : (2 : Int) ^ n ≤ 1152921504606846976 := by
  have := Nat.pow_le_pow_right (n := 2) (by omega) h
  have h2 : ((2 ^ n : Nat) : Int) ≤ ((2 ^ 60 : Nat) : Int) := by omega
  simpa using h2
/-- On the way at node p. -/
theorem pls_part {l : List Nd} {dep : List Int} (hT : TF l dep) {b : Int} {p : Nat} (hp : p < l.length) {ps : List Int} (hval : ∀ j : Nat, p + 1 ≤ j → j < l.length → ps.getD j 0 = PLN l dep b ps j) :
    (∀ c ∈ kid l p, 0 ≤ rd ps c ∧ rd ps c ≤ 1152921504606846976) ∧ ∀ t, 0 ≤ sumL (((kid l p).map (rd ps)).take t) ∧ sumL (((kid l p).map (rd ps)).take t) ≤ 1152921504606846976 ∧ 0 ≤ prodL (((kid l p).map (rd ps)).take t) ∧ prodL (((kid l p).map (rd ps)).take t) ≤ 1152921504606846976 := by
  obtain ⟨es, hes⟩ := leaves_ex hT
  have hs := pls_small hT hval hes
  have kD : ∀ c ∈ kid l p, GoodE l c (ed es c).2 ∧ 0 ≤ rd ps c ∧ rd ps c + 1 ≤ 2 ^ (ed es c).2.length := fun c hc => by
    obtain ⟨h1, h2⟩ := mem_kid hT hp hc
    have := hs c.toNat (by omega) (by omega)
    rw [show ((c.toNat : Nat) : Int) = c by omega] at this
    exact this
  have h60 := hT.n60
  have hg := (good_join hT hp (fun c hc => (kD c hc).1) (kid l p).length (Nat.le_refl _)).1.len
  rw [List.take_length, join_lenS] at hg
  simp only [List.length_nil, Nat.zero_add] at hg
  refine ⟨fun c hc => ⟨(kD c hc).2.1, ?_⟩, fun t => ?_⟩
  · have := (kD c hc).1.len
    have := pow60 (n := (ed es c).2.length) (by omega)
    have := (kD c hc).2.2
    omega
  · have hl := lenS_take (es := es) (kid l p) t
    have hpw := pow60 (n := lenS es ((kid l p).take t)) (by omega)
    have hk : ∀ c ∈ (kid l p).take t, 0 ≤ rd ps c ∧ rd ps c + 1 ≤ 2 ^ (ed es c).2.length := fun c hc => (kD c (List.mem_of_mem_take hc)).2
    rw [← List.map_take]
    have h1 := sum_pow _ hk
    refine ⟨h1.1, by omega, ?_⟩
    by_cases hne : (kid l p).take t = []
    · rw [hne]; simp [prodL]
    · have h2 := prod_pow _ hne hk
      exact ⟨h2.1, by omega⟩
end Go.Proofs.Ytdiljpnfochndaa.HP
/- Segments that are permuted. -/
namespace Go.Proofs.Ytdiljpnfochndaa.HP
/-- os' is os with the places from a to b permuted. -/
structure SegP (a b : Nat) (os os' : List Int) : Prop where
  len : os'.length = os.length
  out : ∀ p : Nat, p < a ∨ b ≤ p → os'.getD p 0 = os.getD p 0
  mem : ∀ p : Nat, a ≤ p → p < b → ∃ q : Nat, a ≤ q ∧ q < b ∧ os'.getD p 0 = os.getD q 0
  perm : os'.Perm os
theorem SegP.refl (a b : Nat) (os : List Int) : SegP a b os os := ⟨rfl, fun _ _ => rfl, fun p h1 h2 => ⟨p, h1, h2, rfl⟩, List.Perm.refl _⟩
theorem SegP.trans {a b : Nat} {x y z : List Int} (h : SegP a b x y) (k : SegP a b y z) : SegP a b x z :=
  ⟨k.len.trans h.len, fun p hp => (k.out p hp).trans (h.out p hp), fun p h1 h2 => by
    obtain ⟨q, q1, q2, e⟩ := k.mem p h1 h2
    obtain ⟨r, r1, r2, e'⟩ := h.mem q q1 q2
    exact ⟨r, r1, r2, e.trans e'⟩, k.perm.trans h.perm⟩
theorem SegP.wide {a b a' b' : Nat} {x y : List Int} (h : SegP a b x y) (ha : a' ≤ a) (hb : b ≤ b') : SegP a' b' x y :=
  ⟨h.len, fun p hp => h.out p (by omega), fun p h1 h2 => by
    by_cases e : a ≤ p ∧ p < b
    · obtain ⟨q, q1, q2, e'⟩ := h.mem p e.1 e.2
      exact ⟨q, by omega, by omega, e'⟩
    · exact ⟨p, h1, h2, h.out p (by omega)⟩, h.perm⟩
theorem getD_set' {os : List Int} {i p : Nat} {x : Int} (hi : i < os.length) : (os.set i x).getD p 0 = if p = i then x else os.getD p 0 := by
  by_cases e : p = i
  · subst e; rw [if_pos rfl]; simp [List.getD_eq_getElem?_getD, hi]
  · rw [if_neg e, List.getD_eq_getElem?_getD, List.getElem?_set_ne (fun h => e h.symm), ← List.getD_eq_getElem?_getD]
/-- Two places exchanged. -/
def swp (os : List Int) (i j : Nat) : List Int := (os.set i (os.getD j 0)).set j (os.getD i 0)
theorem swp_getD {os : List Int} {i j p : Nat} (hi : i < os.length) (hj : j < os.length) : (swp os i j).getD p 0 = if p = j then os.getD i 0 else if p = i then os.getD j 0 else os.getD p 0 := by
  unfold swp
  rw [getD_set' (by simpa using hj), getD_set' hi]
theorem swp_len (os : List Int) (i j : Nat) : (swp os i j).length = os.length := by simp [swp]
theorem set_perm : ∀ (os : List Int) (i : Nat) (x : Int), i < os.length → ((os.getD i 0) :: os.set i x).Perm (x :: os)
  | [], i, x, h => by simp at h
  | a :: r, 0, x, _ => by simpa using List.Perm.swap x a r
  | a :: r, i + 1, x, h => by
    have ih := set_perm r i x (by simpa using h)
    simp only [List.set_cons_succ, List.getD_cons_succ]
    exact (List.Perm.swap a _ _).trans ((ih.cons a).trans (List.Perm.swap x a r))
theorem swp_perm {os : List Int} {i j : Nat} (hi : i < os.length) (hj : j < os.length) : (swp os i j).Perm os := by
  have h1 := set_perm os i (os.getD j 0) hi
  have h2 := set_perm (os.set i (os.getD j 0)) j (os.getD i 0) (by simpa using hj)
  have e : (os.set i (os.getD j 0)).getD j 0 = os.getD j 0 := by
    rw [getD_set' hi]
    split
    · rfl
    · rfl
  rw [e] at h2
  have h3 : (os.getD j 0 :: swp os i j).Perm (os.getD j 0 :: os) := h2.trans h1
  exact List.Perm.cons_inv h3
theorem swp_seg {os : List Int} {a b i j : Nat} (hi : i < os.length) (hj : j < os.length) (hai : a ≤ i) (hib : i < b) (haj : a ≤ j) (hjb : j < b) : SegP a b os (swp os i j) :=
  ⟨swp_len _ _ _, fun p hp => by rw [swp_getD hi hj, if_neg (by omega), if_neg (by omega)], fun p h1 h2 => by
    rw [swp_getD hi hj]
    by_cases e : p = j
    · rw [if_pos e]; exact ⟨i, hai, hib, rfl⟩
    · rw [if_neg e]
      by_cases e2 : p = i
      · rw [if_pos e2]; exact ⟨j, haj, hjb, rfl⟩
      · rw [if_neg e2]; exact ⟨p, h1, h2, rfl⟩, swp_perm hi hj⟩
/-- K-sorted from a to b. -/
def SortK (K : Int → Int) (os : List Int) (a b : Nat) : Prop := ∀ p q : Nat, a ≤ p → p < q → q < b → K (os.getD p 0) < K (os.getD q 0)
theorem SortK.same {K : Int → Int} {x y : List Int} {a b : Nat} (h : SortK K x a b) (e : ∀ p : Nat, a ≤ p → p < b → y.getD p 0 = x.getD p 0) : SortK K y a b := fun p q h1 h2 h3 => by
  rw [e p h1 (by omega), e q (by omega) h3]; exact h p q h1 h2 h3
end Go.Proofs.Ytdiljpnfochndaa.HP
/- Blocks exchanged, and rotated. -/
namespace Go.Proofs.Ytdiljpnfochndaa.HP
/-- os' is os with the i numbers from a, and those from b, exchanged. -/
structure SwR (a b i : Nat) (os os' : List Int) : Prop where
  seg : ∀ lo hi : Nat, lo ≤ a → b + i ≤ hi → SegP lo hi os os'
  low : ∀ x : Nat, a ≤ x → x < a + i → os'.getD x 0 = os.getD (x + (b - a)) 0
  upp : ∀ x : Nat, b ≤ x → x < b + i → os'.getD x 0 = os.getD (x - (b - a)) 0
  out : ∀ x : Nat, x < a ∨ (a + i ≤ x ∧ x < b) ∨ b + i ≤ x → os'.getD x 0 = os.getD x 0
theorem SwR.start (a b : Nat) (os : List Int) : SwR a b 0 os os :=
  ⟨fun _ _ _ _ => SegP.refl _ _ _, fun x h1 h2 => by omega, fun x h1 h2 => by omega, fun _ _ => rfl⟩
theorem SwR.step {a b i : Nat} {os os' : List Int} (h : SwR a b i os os') (hab : a + i < b) (hb : b + i < os.length) : SwR a b (i + 1) os (swp os' (a + i) (b + i)) := by
  have hl : os'.length = os.length := (h.seg a (b + i) (Nat.le_refl _) (Nat.le_refl _)).len
  have g : ∀ p : Nat, (swp os' (a + i) (b + i)).getD p 0 = if p = b + i then os'.getD (a + i) 0 else if p = a + i then os'.getD (b + i) 0 else os'.getD p 0 := fun p => swp_getD (by omega) (by omega)
  refine ⟨fun lo hi h1 h2 => (h.seg lo hi h1 (by omega)).trans (swp_seg (by omega) (by omega) (by omega) (by omega) (by omega) (by omega)), fun x h1 h2 => ?_, fun x h1 h2 => ?_, fun x hx => ?_⟩
  · rw [g, if_neg (by omega)]
    by_cases e : x = a + i
    · rw [if_pos e, h.out _ (by omega)]; congr 1; omega
    · rw [if_neg e]; exact h.low x h1 (by omega)
  · rw [g]
    by_cases e : x = b + i
    · rw [if_pos e, h.out _ (by omega)]; congr 1; omega
    · rw [if_neg e, if_neg (by omega)]; exact h.upp x h1 (by omega)
  · rw [g, if_neg (by omega), if_neg (by omega)]; exact h.out x (by omega)
/-- On the way of a rotation: T is what it comes to; the i numbers before m and the j numbers from m are still to be exchanged. -/
structure Rot (T : Nat → Int) (a m b i j : Nat) (os0 os : List Int) : Prop where
  seg : SegP a b os0 os
  ia : a + i ≤ m
  jb : m + j ≤ b
  lo : ∀ x : Nat, a ≤ x → x < m - i → os.getD x 0 = T x
  hi : ∀ x : Nat, m + j ≤ x → x < b → os.getD x 0 = T x
  l : ∀ x : Nat, m - i ≤ x → x < m - i + j → os.getD (x + i) 0 = T x
  r : ∀ x : Nat, m - i + j ≤ x → x < m + j → os.getD (x - j) 0 = T x
/-- What a rotation comes to. -/
def rotT (os : List Int) (a m b : Nat) (x : Nat) : Int := if x < a + (b - m) then os.getD (x + (m - a)) 0 else os.getD (x - (b - m)) 0
theorem Rot.start {a m b : Nat} (os : List Int) (h1 : a ≤ m) (h2 : m ≤ b) : Rot (rotT os a m b) a m b (m - a) (b - m) os os :=
  ⟨SegP.refl _ _ _, by omega, by omega, fun x h1 h2 => by omega, fun x h1 h2 => by omega, fun x h3 h4 => by unfold rotT; rw [if_pos (by omega)], fun x h3 h4 => by unfold rotT; rw [if_neg (by omega)]⟩
theorem Rot.left {T : Nat → Int} {a m b i j : Nat} {os0 os os' : List Int} (h : Rot T a m b i j os0 os) (hij : j < i) (s : SwR (m - i) m j os os') : Rot T a m b (i - j) j os0 os' := by
  have ia := h.ia; have jb := h.jb
  refine ⟨h.seg.trans (s.seg a b (by omega) (by omega)), by omega, h.jb, fun x h1 h2 => ?_, fun x h1 h2 => ?_, fun x h1 h2 => ?_, fun x h1 h2 => ?_⟩
  · by_cases e : x < m - i
    · rw [s.out _ (by omega)]; exact h.lo x h1 e
    · rw [s.low _ (by omega) (by omega), show x + (m - (m - i)) = x + i by omega]; exact h.l x (by omega) (by omega)
  · rw [s.out _ (by omega)]; exact h.hi x h1 h2
  · by_cases e : x + (i - j) < m
    · omega
    · rw [s.upp _ (by omega) (by omega), show x + (i - j) - (m - (m - i)) = x - j by omega]; exact h.r x (by omega) (by omega)
  · rw [s.out _ (by omega)]; exact h.r x (by omega) h2
theorem Rot.right {T : Nat → Int} {a m b i j : Nat} {os0 os os' : List Int} (h : Rot T a m b i j os0 os) (hij : i < j) (s : SwR (m - i) (m + j - i) i os os') : Rot T a m b i (j - i) os0 os' := by
  have ia := h.ia; have jb := h.jb
  refine ⟨h.seg.trans (s.seg a b (by omega) (by omega)), h.ia, by omega, fun x h1 h2 => ?_, fun x h1 h2 => ?_, fun x h1 h2 => ?_, fun x h1 h2 => ?_⟩
  · rw [s.out _ (by omega)]; exact h.lo x h1 h2
  · by_cases e : x < m + j
    · rw [s.upp _ (by omega) (by omega), show x - (m + j - i - (m - i)) = x - j by omega]; exact h.r x (by omega) (by omega)
    · rw [s.out _ (by omega)]; exact h.hi x (by omega) h2
  · rw [s.out _ (by omega)]; exact h.l x h1 (by omega)
  · by_cases e : x - (j - i) < m
    · rw [s.low _ (by omega) (by omega), show x - (j - i) + (m + j - i - (m - i)) = x + i by omega]; exact h.l x (by omega) (by omega)
    · omega
theorem Rot.done {T : Nat → Int} {a m b i : Nat} {os0 os os' : List Int} (h : Rot T a m b i i os0 os) (s : SwR (m - i) m i os os') : SegP a b os0 os' ∧ ∀ x : Nat, a ≤ x → x < b → os'.getD x 0 = T x := by
  have ia := h.ia; have jb := h.jb
  refine ⟨h.seg.trans (s.seg a b (by omega) (by omega)), fun x h1 h2 => ?_⟩
  by_cases e1 : x < m - i
  · rw [s.out _ (by omega)]; exact h.lo x h1 e1
  · by_cases e2 : x < m
    · rw [s.low _ (by omega) (by omega), show x + (m - (m - i)) = x + i by omega]; exact h.l x (by omega) (by omega)
    · by_cases e3 : x < m + i
      · rw [s.upp _ (by omega) (by omega), show x - (m - (m - i)) = x - i by omega]; exact h.r x (by omega) (by omega)
      · rw [s.out _ (by omega)]; exact h.hi x (by omega) h2
end Go.Proofs.Ytdiljpnfochndaa.HP
/- Two sorted parts that are merged by exchanges. -/
namespace Go.Proofs.Ytdiljpnfochndaa.HP
/-- The number at place a has gone up to place k. -/
structure MvU (a k : Nat) (os os' : List Int) : Prop where
  seg : SegP a (k + 1) os os'
  low : ∀ x : Nat, a ≤ x → x < k → os'.getD x 0 = os.getD (x + 1) 0
  cur : os'.getD k 0 = os.getD a 0
  ak : a ≤ k
theorem MvU.start (a : Nat) (os : List Int) : MvU a a os os := ⟨SegP.refl _ _ _, fun x h1 h2 => by omega, rfl, Nat.le_refl _⟩
theorem MvU.step {a k : Nat} {os os' : List Int} (h : MvU a k os os') (hk : k + 1 < os.length) : MvU a (k + 1) os (swp os' k (k + 1)) := by
  have hl := h.seg.len
  have ak := h.ak
  have g : ∀ p : Nat, (swp os' k (k + 1)).getD p 0 = if p = k + 1 then os'.getD k 0 else if p = k then os'.getD (k + 1) 0 else os'.getD p 0 := fun p => swp_getD (by omega) (by omega)
  refine ⟨(h.seg.wide (Nat.le_refl _) (by omega)).trans (swp_seg (by omega) (by omega) (by omega) (by omega) (by omega) (by omega)), fun x h1 h2 => ?_, ?_, by omega⟩
  · rw [g, if_neg (by omega)]
    by_cases e : x = k
    · rw [if_pos e, h.seg.out _ (by omega), e]
    · rw [if_neg e]; exact h.low x h1 (by omega)
  · rw [g, if_pos rfl]; exact h.cur
/-- The number at place m has gone down to place k. -/
structure MvD (m k : Nat) (os os' : List Int) : Prop where
  seg : SegP k (m + 1) os os'
  upp : ∀ x : Nat, k < x → x ≤ m → os'.getD x 0 = os.getD (x - 1) 0
  cur : os'.getD k 0 = os.getD m 0
  km : k ≤ m
theorem MvD.start (m : Nat) (os : List Int) : MvD m m os os := ⟨SegP.refl _ _ _, fun x h1 h2 => by omega, rfl, Nat.le_refl _⟩
theorem MvD.step {m k : Nat} {os os' : List Int} (h : MvD m (k + 1) os os') (hm : m < os.length) : MvD m k os (swp os' (k + 1) k) := by
  have hl := h.seg.len
  have km := h.km
  have g : ∀ p : Nat, (swp os' (k + 1) k).getD p 0 = if p = k then os'.getD (k + 1) 0 else if p = k + 1 then os'.getD k 0 else os'.getD p 0 := fun p => swp_getD (by omega) (by omega)
  refine ⟨(h.seg.wide (by omega) (Nat.le_refl _)).trans (swp_seg (by omega) (by omega) (by omega) (by omega) (by omega) (by omega)), fun x h1 h2 => ?_, ?_, by omega⟩
  · rw [g, if_neg (by omega)]
    by_cases e : x = k + 1
    · rw [if_pos e, h.seg.out _ (by omega)]; congr 1; omega
    · rw [if_neg e]; exact h.upp x (by omega) h2
  · rw [g, if_pos rfl]; exact h.cur
/-- The search of the place of the first number, alone in its part. -/
structure LoS (K : Int → Int) (os : List Int) (a m b i j : Nat) : Prop where
  mi : m ≤ i
  ij : i ≤ j
  jb : j ≤ b
  lo : ∀ x : Nat, m ≤ x → x < i → K (os.getD x 0) < K (os.getD a 0)
  hi : ∀ x : Nat, j ≤ x → x < b → K (os.getD a 0) < K (os.getD x 0)
theorem LoS.up {K : Int → Int} {os : List Int} {a m b i j h : Nat} (s : LoS K os a m b i j) (hs : SortK K os m b) (h1 : i ≤ h) (h2 : h < j) (hk : K (os.getD h 0) < K (os.getD a 0)) : LoS K os a m b (h + 1) j := by
  have := s.mi; have := s.jb
  refine ⟨by omega, by omega, s.jb, fun x h3 h4 => ?_, s.hi⟩
  by_cases e : x = h
  · rw [e]; exact hk
  · exact Int.lt_trans (hs x h h3 (by omega) (by omega)) hk
theorem LoS.down {K : Int → Int} {os : List Int} {a m b i j h : Nat} (s : LoS K os a m b i j) (hs : SortK K os m b) (h1 : i ≤ h) (h2 : h < j) (hk : K (os.getD a 0) < K (os.getD h 0)) : LoS K os a m b i h := by
  have := s.mi; have := s.jb
  refine ⟨s.mi, h1, by omega, s.lo, fun x h3 h4 => ?_⟩
  by_cases e : x = h
  · rw [e]; exact hk
  · exact Int.lt_trans hk (hs h x (by omega) (by omega) h4)
theorem LoS.done {K : Int → Int} {os os' : List Int} {a m b i : Nat} (s : LoS K os a m b i i) (hm : m = a + 1) (hs : SortK K os m b) (mv : MvU a (i - 1) os os') : SegP a b os os' ∧ SortK K os' a b := by
  have := s.mi; have := s.jb
  refine ⟨mv.seg.wide (Nat.le_refl _) (by omega), fun p q h1 h2 h3 => ?_⟩
  have ol : ∀ x : Nat, i ≤ x → os'.getD x 0 = os.getD x 0 := fun x h => mv.seg.out x (by omega)
  by_cases e1 : q < i - 1
  · rw [mv.low p h1 (by omega), mv.low q (by omega) e1]; exact hs _ _ (by omega) (by omega) (by omega)
  · by_cases e2 : q = i - 1
    · rw [e2, mv.cur, mv.low p h1 (by omega)]; exact s.lo _ (by omega) (by omega)
    · rw [ol q (by omega)]
      by_cases e3 : p < i - 1
      · rw [mv.low p h1 e3]; exact hs _ _ (by omega) (by omega) (by omega)
      · by_cases e4 : p = i - 1
        · rw [e4, mv.cur]; exact s.hi q (by omega) h3
        · rw [ol p (by omega)]; exact hs p q (by omega) h2 h3
/-- The search of the place of the last number, alone in its part. -/
structure HiS (K : Int → Int) (os : List Int) (a m i j : Nat) : Prop where
  ai : a ≤ i
  ij : i ≤ j
  jm : j ≤ m
  lo : ∀ x : Nat, a ≤ x → x < i → K (os.getD x 0) < K (os.getD m 0)
  hi : ∀ x : Nat, j ≤ x → x < m → K (os.getD m 0) < K (os.getD x 0)
theorem HiS.up {K : Int → Int} {os : List Int} {a m i j h : Nat} (s : HiS K os a m i j) (hs : SortK K os a m) (h1 : i ≤ h) (h2 : h < j) (hk : K (os.getD h 0) < K (os.getD m 0)) : HiS K os a m (h + 1) j := by
  have := s.ai; have := s.jm
  refine ⟨by omega, by omega, s.jm, fun x h3 h4 => ?_, s.hi⟩
  by_cases e : x = h
  · rw [e]; exact hk
  · exact Int.lt_trans (hs x h h3 (by omega) (by omega)) hk
theorem HiS.down {K : Int → Int} {os : List Int} {a m i j h : Nat} (s : HiS K os a m i j) (hs : SortK K os a m) (h1 : i ≤ h) (h2 : h < j) (hk : K (os.getD m 0) < K (os.getD h 0)) : HiS K os a m i h := by
  have := s.ai; have := s.jm
  refine ⟨s.ai, h1, by omega, s.lo, fun x h3 h4 => ?_⟩
  by_cases e : x = h
  · rw [e]; exact hk
  · exact Int.lt_trans hk (hs h x (by omega) (by omega) h4)
theorem HiS.done {K : Int → Int} {os os' : List Int} {a m i : Nat} (s : HiS K os a m i i) (hs : SortK K os a m) (mv : MvD m i os os') : SegP a (m + 1) os os' ∧ SortK K os' a (m + 1) := by
  have := s.ai; have := s.jm
  refine ⟨mv.seg.wide (by omega) (Nat.le_refl _), fun p q h1 h2 h3 => ?_⟩
  have ol : ∀ x : Nat, x < i → os'.getD x 0 = os.getD x 0 := fun x h => mv.seg.out x (by omega)
  by_cases e1 : q < i
  · rw [ol p (by omega), ol q e1]; exact hs _ _ (by omega) (by omega) (by omega)
  · by_cases e2 : q = i
    · rw [e2, mv.cur, ol p (by omega)]; exact s.lo _ (by omega) (by omega)
    · rw [mv.upp q (by omega) (by omega)]
      by_cases e3 : p < i
      · rw [ol p e3]; exact hs _ _ (by omega) (by omega) (by omega)
      · by_cases e4 : p = i
        · rw [e4, mv.cur]; exact s.hi _ (by omega) (by omega)
        · rw [mv.upp p (by omega) (by omega)]; exact hs _ _ (by omega) (by omega) (by omega)
/-- The search of the place at which both parts are cut. -/
structure MiS (K : Int → Int) (os : List Int) (a m b i j : Nat) : Prop where
  ij : i ≤ j
  rng : (((a + b) / 2 < m ∧ (a + b) / 2 + m ≤ i + b ∧ j ≤ (a + b) / 2) ∨ (m ≤ (a + b) / 2 ∧ a ≤ i ∧ j ≤ m))
  lo : ((a + b) / 2 < m ∧ i + b = (a + b) / 2 + m) ∨ (m ≤ (a + b) / 2 ∧ i = a) ∨ (1 ≤ i ∧ K (os.getD (i - 1) 0) < K (os.getD ((a + b) / 2 + m - i) 0))
  hi : ((a + b) / 2 < m ∧ j = (a + b) / 2) ∨ (m ≤ (a + b) / 2 ∧ j = m) ∨ K (os.getD ((a + b) / 2 + m - 1 - j) 0) < K (os.getD j 0)
theorem MiS.up {K : Int → Int} {os : List Int} {a m b i j h : Nat} (s : MiS K os a m b i j) (h1 : i ≤ h) (h2 : h < j) (hk : K (os.getD h 0) < K (os.getD ((a + b) / 2 + m - 1 - h) 0)) : MiS K os a m b (h + 1) j := by
  have rng := s.rng
  refine ⟨by omega, by omega, .inr (.inr ⟨by omega, ?_⟩), s.hi⟩
  rw [show h + 1 - 1 = h by omega, show (a + b) / 2 + m - (h + 1) = (a + b) / 2 + m - 1 - h by omega]; exact hk
theorem MiS.down {K : Int → Int} {os : List Int} {a m b i j h : Nat} (s : MiS K os a m b i j) (h1 : i ≤ h) (h2 : h < j) (hk : K (os.getD ((a + b) / 2 + m - 1 - h) 0) < K (os.getD h 0)) : MiS K os a m b i h := by
  have rng := s.rng
  exact ⟨h1, by omega, s.lo, .inr (.inr hk)⟩
/-- What the rotation between both cuts leaves. -/
structure Cut (K : Int → Int) (a b mid s : Nat) (e : Nat) (os : List Int) : Prop where
  as_ : a ≤ s
  sm : s ≤ mid
  me : mid ≤ e
  eb : e ≤ b
  s1 : SortK K os a s
  s2 : SortK K os s mid
  s3 : SortK K os mid e
  s4 : SortK K os e b
  sep : ∀ p q : Nat, a ≤ p → p < mid → mid ≤ q → q < b → K (os.getD p 0) < K (os.getD q 0)
theorem MiS.cut {K : Int → Int} {os ns : List Int} {a m b s : Nat} (h : MiS K os a m b s s) (ham : a < m) (hmb : m < b) (h1 : SortK K os a m) (h2 : SortK K os m b)
    (hT : ∀ x : Nat, a ≤ x → x < b → ns.getD x 0 = if x < s then os.getD x 0 else if x < (a + b) / 2 then os.getD (x + (m - s)) 0 else if x < (a + b) / 2 + m - s then os.getD (x - ((a + b) / 2 - s)) 0 else os.getD x 0) :
    Cut K a b ((a + b) / 2) s ((a + b) / 2 + m - s) ns ∧ (∀ p : Nat, a ≤ p → p < s → ∃ p' : Nat, a ≤ p' ∧ p' < m ∧ ns.getD p 0 = os.getD p' 0) ∧ (∀ p : Nat, s ≤ p → p < (a + b) / 2 → ∃ p' : Nat, m ≤ p' ∧ p' < b ∧ ns.getD p 0 = os.getD p' 0)
      ∧ (∀ p : Nat, (a + b) / 2 ≤ p → p < (a + b) / 2 + m - s → ∃ p' : Nat, a ≤ p' ∧ p' < m ∧ ns.getD p 0 = os.getD p' 0) ∧ (∀ p : Nat, (a + b) / 2 + m - s ≤ p → p < b → ∃ p' : Nat, m ≤ p' ∧ p' < b ∧ ns.getD p 0 = os.getD p' 0) := by
  have rng := h.rng; have lo := h.lo; have hi := h.hi
  generalize hmid : (a + b) / 2 = mid at *
  have hsm : s ≤ mid := by omega
  have hsm' : s ≤ m := by omega
  have t1 : ∀ x : Nat, a ≤ x → x < s → ns.getD x 0 = os.getD x 0 := fun x e1 e2 => by rw [hT x e1 (by omega), if_pos e2]
  have t2 : ∀ x : Nat, s ≤ x → x < mid → ns.getD x 0 = os.getD (x + (m - s)) 0 := fun x e1 e2 => by rw [hT x (by omega) (by omega), if_neg (by omega), if_pos e2]
  have t3 : ∀ x : Nat, mid ≤ x → x < mid + m - s → ns.getD x 0 = os.getD (x - (mid - s)) 0 := fun x e1 e2 => by rw [hT x (by omega) (by omega), if_neg (by omega), if_neg (by omega), if_pos e2]
  have t4 : ∀ x : Nat, mid + m - s ≤ x → x < b → ns.getD x 0 = os.getD x 0 := fun x e1 e2 => by rw [hT x (by omega) (by omega), if_neg (by omega), if_neg (by omega), if_neg (by omega)]
  -- a before s, end and behind
  have x1 : ∀ p q : Nat, a ≤ p → p < s → mid + m - s ≤ q → q < b → K (os.getD p 0) < K (os.getD q 0) := fun p q e1 e2 e3 e4 => by
    have : 1 ≤ s ∧ K (os.getD (s - 1) 0) < K (os.getD (mid + m - s) 0) := by
      rcases lo with l | l | l
      · omega
      · omega
      · exact l
    have y1 : K (os.getD p 0) ≤ K (os.getD (s - 1) 0) := by
      by_cases e : p = s - 1
      · rw [e]; exact Int.le_refl _
      · exact Int.le_of_lt (h1 p (s - 1) e1 (by omega) (by omega))
    have y2 : K (os.getD (mid + m - s) 0) ≤ K (os.getD q 0) := by
      by_cases e : q = mid + m - s
      · rw [e]; exact Int.le_refl _
      · exact Int.le_of_lt (h2 (mid + m - s) q (by omega) (by omega) (by omega))
    omega
  have x2 : ∀ p q : Nat, m ≤ p → p < mid + m - s → s ≤ q → q < m → K (os.getD p 0) < K (os.getD q 0) := fun p q e1 e2 e3 e4 => by
    have : K (os.getD (mid + m - 1 - s) 0) < K (os.getD s 0) := by
      rcases hi with l | l | l
      · omega
      · omega
      · exact l
    have y1 : K (os.getD p 0) ≤ K (os.getD (mid + m - 1 - s) 0) := by
      by_cases e : p = mid + m - 1 - s
      · rw [e]; exact Int.le_refl _
      · exact Int.le_of_lt (h2 p (mid + m - 1 - s) e1 (by omega) (by omega))
    have y2 : K (os.getD s 0) ≤ K (os.getD q 0) := by
      by_cases e : q = s
      · rw [e]; exact Int.le_refl _
      · exact Int.le_of_lt (h1 s q (by omega) (by omega) (by omega))
    omega
  refine ⟨⟨by omega, hsm, by omega, by omega, fun p q e1 e2 e3 => ?_, fun p q e1 e2 e3 => ?_, fun p q e1 e2 e3 => ?_, fun p q e1 e2 e3 => ?_, fun p q e1 e2 e3 e4 => ?_⟩,
    fun p e1 e2 => ⟨p, e1, by omega, t1 p e1 e2⟩, fun p e1 e2 => ⟨_, by omega, by omega, t2 p e1 e2⟩, fun p e1 e2 => ⟨_, by omega, by omega, t3 p e1 e2⟩, fun p e1 e2 => ⟨p, by omega, e2, t4 p e1 e2⟩⟩
  · rw [t1 p e1 (by omega), t1 q (by omega) e3]; exact h1 p q e1 e2 (by omega)
  · rw [t2 p e1 (by omega), t2 q (by omega) e3]; exact h2 _ _ (by omega) (by omega) (by omega)
  · rw [t3 p e1 (by omega), t3 q (by omega) e3]; exact h1 _ _ (by omega) (by omega) (by omega)
  · rw [t4 p e1 (by omega), t4 q (by omega) e3]; exact h2 p q (by omega) e2 e3
  · by_cases f1 : p < s
    · rw [t1 p e1 f1]
      by_cases f2 : q < mid + m - s
      · rw [t3 q e3 f2]; exact h1 _ _ e1 (by omega) (by omega)
      · rw [t4 q (by omega) e4]; exact x1 p q e1 f1 (by omega) e4
    · rw [t2 p (by omega) e2]
      by_cases f2 : q < mid + m - s
      · rw [t3 q e3 f2]; exact x2 _ _ (by omega) (by omega) (by omega) (by omega)
      · rw [t4 q (by omega) e4]; exact h2 _ _ (by omega) (by omega) e4
/-- Both halves sorted by themselves. -/
theorem Cut.done {K : Int → Int} {a b mid s e : Nat} {os x y : List Int} (h : Cut K a b mid s e os) (s1 : SegP a mid os x) (k1 : SortK K x a mid) (s2 : SegP mid b x y) (k2 : SortK K y mid b) : SegP a b os y ∧ SortK K y a b := by
  have := h.as_; have := h.sm; have := h.me; have := h.eb
  refine ⟨(s1.wide (Nat.le_refl _) (by omega)).trans (s2.wide (by omega) (Nat.le_refl _)), fun p q h1 h2 h3 => ?_⟩
  by_cases e1 : q < mid
  · rw [s2.out p (by omega), s2.out q (by omega)]; exact k1 p q h1 h2 e1
  · by_cases e2 : mid ≤ p
    · exact k2 p q e2 h2 h3
    · rw [s2.out p (by omega)]
      obtain ⟨p', p1, p2, ep⟩ := s1.mem p h1 (by omega)
      obtain ⟨q', q1, q2, eq⟩ := s2.mem q (by omega) h3
      rw [ep, eq, s1.out q' (by omega)]
      exact h.sep p' q' p1 p2 q1 q2
end Go.Proofs.Ytdiljpnfochndaa.HP
/- Blocks that are sorted by themselves. -/
namespace Go.Proofs.Ytdiljpnfochndaa.HP
structure Blk (K : Int → Int) (bs n : Nat) (os0 os : List Int) : Prop where
  seg : SegP 0 n os0 os
  org : ∀ x : Nat, x < n → ∃ y : Nat, y < n ∧ y / bs = x / bs ∧ os.getD x 0 = os0.getD y 0
  srt : ∀ p q : Nat, p < q → q < n → p / bs = q / bs → K (os.getD p 0) < K (os.getD q 0)
theorem Blk.start (K : Int → Int) (bs : Nat) (os : List Int) : Blk K bs 0 os os := ⟨SegP.refl _ _ _, fun x h => by omega, fun p q _ h => by omega⟩
theorem Blk.ins {K : Int → Int} {t b : Nat} {os0 os os' : List Int} (h : Blk K 20 (20 * t) os0 os) (hb : b ≤ 20 * t + 20) (hb' : 20 * t ≤ b) (s : SegP (20 * t) b os os') (k : SortK K os' (20 * t) b) : Blk K 20 b os0 os' := by
  refine ⟨(h.seg.wide (Nat.le_refl _) hb').trans (s.wide (by omega) (Nat.le_refl _)), fun x hx => ?_, fun p q h1 h2 h3 => ?_⟩
  · by_cases e : x < 20 * t
    · obtain ⟨y, y1, y2, y3⟩ := h.org x e
      exact ⟨y, by omega, y2, by rw [s.out x (by omega), y3]⟩
    · obtain ⟨y, y1, y2, y3⟩ := s.mem x (by omega) hx
      exact ⟨y, y2, by omega, by rw [y3, h.seg.out y (by omega)]⟩
  · by_cases e : q < 20 * t
    · rw [s.out p (by omega), s.out q (by omega)]; exact h.srt p q h1 e h3
    · exact k p q (by omega) h1 h2
/-- Elements of two blocks stood in this order. -/
theorem Blk.ord {K : Int → Int} {bs n : Nat} {os0 os : List Int} (h : Blk K bs n os0 os) {p q : Nat} (hp : p < n) (hq : q < n) (hpq : p / bs < q / bs) : ∃ y z : Nat, y < z ∧ z < n ∧ os.getD p 0 = os0.getD y 0 ∧ os.getD q 0 = os0.getD z 0 := by
  obtain ⟨y, y1, y2, y3⟩ := h.org p hp
  obtain ⟨z, z1, z2, z3⟩ := h.org q hq
  refine ⟨y, z, ?_, z1, y3, z3⟩
  rcases Nat.lt_or_ge y z with e | e
  · exact e
  · have := Nat.div_le_div_right (c := bs) e
    omega
theorem Blk.all {K : Int → Int} {bs bs' n : Nat} {os0 os os' : List Int} (h : Blk K bs n os0 os) (s : SegP 0 n os os') (k : SortK K os' 0 n) (hn : n ≤ bs') : Blk K bs' n os0 os' := by
  refine ⟨h.seg.trans s, fun x hx => ?_, fun p q h1 h2 _ => k p q (by omega) h1 h2⟩
  obtain ⟨y, y1, y2, y3⟩ := (h.seg.trans s).mem x (by omega) hx
  exact ⟨y, y2, by rw [Nat.div_eq_of_lt (by omega), Nat.div_eq_of_lt (by omega)], y3⟩
theorem Blk.half {K : Int → Int} {n : Nat} {os0 os os' : List Int} (h : Blk K 20 n os0 os) (s : SegP 0 40 os os') (k : SortK K os' 0 40) (hn : n < 60) (hn' : 40 ≤ n) : Blk K 40 n os0 os' := by
  refine ⟨h.seg.trans (s.wide (Nat.le_refl _) hn'), fun x hx => ?_, fun p q h1 h2 h3 => ?_⟩
  · by_cases e : x < 40
    · obtain ⟨y, y1, y2, y3⟩ := s.mem x (by omega) e
      obtain ⟨z, z1, z2, z3⟩ := h.org y (by omega)
      exact ⟨z, z1, by omega, by rw [y3, z3]⟩
    · obtain ⟨z, z1, z2, z3⟩ := h.org x hx
      exact ⟨z, z1, by omega, by rw [s.out x (by omega), z3]⟩
  · by_cases e : q < 40
    · exact k p q (by omega) h1 e
    · rw [s.out p (by omega), s.out q (by omega)]; exact h.srt p q h1 h2 (by omega)
theorem Blk.skip {K : Int → Int} {n : Nat} {os0 os : List Int} {bs bs' : Nat} (h : Blk K bs n os0 os) (hn : n ≤ bs) (hn' : n ≤ bs') : Blk K bs' n os0 os :=
  ⟨h.seg, fun x hx => by
    obtain ⟨y, y1, y2, y3⟩ := h.org x hx
    exact ⟨y, y1, by rw [Nat.div_eq_of_lt (by omega), Nat.div_eq_of_lt (by omega)], y3⟩, fun p q h1 h2 h3 => h.srt p q h1 h2 (by rw [Nat.div_eq_of_lt (by omega), Nat.div_eq_of_lt (by omega)])⟩
theorem Blk.sorted {K : Int → Int} {n bs : Nat} {os0 os : List Int} (h : Blk K bs n os0 os) (hn : n ≤ bs) : SortK K os 0 n :=
  fun p q _ h2 h3 => h.srt p q h2 h3 (by rw [Nat.div_eq_of_lt (by omega), Nat.div_eq_of_lt (by omega)])
end Go.Proofs.Ytdiljpnfochndaa.HP
/- Insertion sort by numbers. -/
namespace Go.Proofs.Ytdiljpnfochndaa.HP
/-- Element i on its way down, at place j. -/
structure InsI (K : Int → Int) (os0 : List Int) (a i j : Nat) (os : List Int) : Prop where
  seg : SegP a (i + 1) os0 os
  cur : os.getD j 0 = os0.getD i 0
  aj : a ≤ j
  ji : j ≤ i
  srt : ∀ p q : Nat, a ≤ p → p < q → q < i + 1 → p ≠ j → q ≠ j → K (os.getD p 0) < K (os.getD q 0)
  up : ∀ q : Nat, j < q → q < i + 1 → K (os0.getD i 0) < K (os.getD q 0)
  old : ∀ p : Nat, a ≤ p → p < i + 1 → p ≠ j → ∃ q : Nat, a ≤ q ∧ q < i ∧ os.getD p 0 = os0.getD q 0
theorem InsI.start {K : Int → Int} {os0 os : List Int} {a i : Nat} (h : SegP a i os0 os) (hs : SortK K os a i) (ha : a ≤ i) : InsI K os0 a i i os :=
  ⟨h.wide (Nat.le_refl _) (by omega), h.out i (by omega), ha, Nat.le_refl _, fun p q h1 h2 h3 h4 h5 => hs p q h1 h2 (by omega), fun q h1 h2 => by omega, fun p h1 h2 h3 => h.mem p h1 (by omega)⟩
theorem InsI.step {K : Int → Int} {os0 os : List Int} {a i j : Nat} (h : InsI K os0 a i (j + 1) os) (hi : i < os0.length) (ha : a ≤ j) (hlt : K (os0.getD i 0) < K (os.getD j 0)) : InsI K os0 a i j (swp os (j + 1) j) := by
  have hl := h.seg.len
  have hji := h.ji
  have g : ∀ p : Nat, (swp os (j + 1) j).getD p 0 = if p = j then os.getD (j + 1) 0 else if p = j + 1 then os.getD j 0 else os.getD p 0 := fun p => swp_getD (by omega) (by omega)
  refine ⟨h.seg.trans (swp_seg (by omega) (by omega) (by omega) (by omega) (by omega) (by omega)), ?_, ha, by omega, fun p q h1 h2 h3 h4 h5 => ?_, fun q h1 h2 => ?_, fun p h1 h2 h3 => ?_⟩
  · rw [g, if_pos rfl, h.cur]
  · rw [g, g, if_neg h4, if_neg h5]
    by_cases e1 : p = j + 1
    · rw [if_pos e1, if_neg (by omega)]
      exact h.srt j q (by omega) (by omega) h3 (by omega) (by omega)
    · rw [if_neg e1]
      by_cases e2 : q = j + 1
      · rw [if_pos e2]; exact h.srt p j h1 (by omega) (by omega) (by omega) (by omega)
      · rw [if_neg e2]; exact h.srt p q h1 h2 h3 (by omega) (by omega)
  · rw [g, if_neg (by omega)]
    by_cases e : q = j + 1
    · rw [if_pos e]; exact hlt
    · rw [if_neg e]; exact h.up q (by omega) h2
  · rw [g, if_neg h3]
    by_cases e : p = j + 1
    · rw [if_pos e]; exact h.old j ha (by omega) (by omega)
    · rw [if_neg e]; exact h.old p h1 h2 (by omega)
theorem InsI.done {K : Int → Int} {os0 os : List Int} {a i j : Nat} (h : InsI K os0 a i j os) (hd : j = a ∨ ∃ m : Nat, j = m + 1 ∧ K (os.getD m 0) < K (os0.getD i 0)) : SortK K os a (i + 1) := by
  intro p q h1 h2 h3
  have hji := h.ji
  by_cases e1 : p = j
  · subst e1; rw [h.cur]; exact h.up q h2 h3
  · by_cases e2 : q = j
    · subst e2
      rw [h.cur]
      rcases hd with hd | ⟨m, hm, hk⟩
      · omega
      · by_cases e : p = m
        · subst e; exact hk
        · exact Int.lt_trans (h.srt p m h1 (by omega) (by omega) e1 (by omega)) hk
    · exact h.srt p q h1 h2 h3 e1 e2
end Go.Proofs.Ytdiljpnfochndaa.HP
namespace Go.Proofs.Ytdiljpnfochndaa
open Go Go.RowKit Go.Proofs.Ytdiljpnfochndaa.VW
open Go.Proofs.Ytdiljpnfochndaa.HP (SegP SortK InsI swp)
attribute [local irreducible] W Ops OrdA VW.Ord OrdX
/-- A slice of the call's own, and what else stands. -/
structure OH (G : World → Prop) (wB w : World) (ov : Value) (os : List Int) : Prop where
  oi : OI 3 (Value.int .i64) wB w ov os
  g : G w
/-- It stands when the slice alone is written. -/
def Gst (G : World → Prop) (ov : Value) : Prop := ∀ w w', G w → Kp (fun k => ov.ownBlock = some k) w w' → G w'
theorem OH.sh {G : World → Prop} {wB w : World} {ov : Value} {os : List Int} (h : OH G wB w ov os) : ∃ A c, ov = .slice A os.length c := h.oi.sh
theorem OH.sl {G : World → Prop} {wB w : World} {ov : Value} {os : List Int} (h : OH G wB w ov os) : SlI w ov os := h.oi.sl
theorem OH.bel {G : World → Prop} {wB w : World} {ov : Value} {os : List Int} (h : OH G wB w ov os) : Below wB.heap.size wB w := h.oi.bel
theorem OH.below {G : World → Prop} {wB w w' : World} {ov : Value} {os : List Int} (h : OH G wB w ov os) (hs : Gst G ov) (k : Below w.heap.size w w') : OH G wB w' ov os := ⟨h.oi.below k, hs _ _ h.g (Kp.of_below k)⟩
theorem OH.wr {G : World → Prop} {wB w w4 w5 w6 : World} {ov : Value} {os os' : List Int} (h : OH G wB w ov os) (hs : Gst G ov) (hb : Below w.heap.size w w4) (k1 : Kp (fun b => ov.ownBlock = some b) w4 w5) (k2 : Kp (fun b => ov.ownBlock = some b) w5 w6) (hO : OI 3 (Value.int .i64) wB w6 ov os') : OH G wB w6 ov os' :=
  ⟨hO, hs _ _ (hs _ _ (hs _ _ h.g (Kp.of_below hb)) k1) k2⟩
/-- What the sort asks of the comparison: of two elements, the later one first. -/
structure Cmp (G : World → Prop) (wB : World) (fc : Nat) (first cap : List Value) (cv : Int → Int → Int) (K : Int → Int) (x y : Int) : Prop where
  call : ∀ w', Below wB.heap.size wB w' → G w' → Calls Try.prog fc (app3 first [.int .i64 y, .int .i64 x] cap).toArray w' (Ret fun v w'' => v = .int .i64 (cv y x) ∧ Below w'.heap.size w' w'')
  lt : cv y x < 0 ↔ K y < K x
  ne : K x ≠ K y
theorem callV_f {ρ : E} {c : Call} {g : Operand} {fc : Nat} {first cap vs : List Value} {vf : Value} (hvf : vf = .func (.func fc) first.toArray cap.toArray) (hc : c.callee = .value g) (hg : ev ρ g = some vf) (ha : evs ρ c.args.toList = some vs) : callV ρ c = some (fc, app3 first vs cap) := by
  subst hvf
  simp [callV, hc, hg, ha]
set_option maxHeartbeats 4000000 in
theorem insertion_c {G : World → Prop} {wB w : World} {ov vf : Value} {os0 : List Int} {a b fc : Nat} {first cap : List Value} {cv : Int → Int → Int} {K : Int → Int} (hO : OH G wB w ov os0) (hGs : Gst G ov) (hab : a ≤ b) (hb : b ≤ os0.length) (hl : os0.length ≤ 1000) (hvf : vf = .func (.func fc) first.toArray cap.toArray) (hfm : memB (Fns.L Try.prog) fc = true)
    (hcc : ∀ p q : Nat, a ≤ p → p < q → q < b → Cmp G wB fc first cap cv K (os0.getD p 0) (os0.getD q 0)) :
    Calls Try.prog 104 #[ov, .int .i64 a, .int .i64 b, vf] w (Ret fun r w' => ∃ os, OH G wB w' ov os ∧ SegP a b os0 os ∧ SortK K os a b) := by
  obtain ⟨A, c, rfl⟩ := hO.sh
  refine calls_W (vs := [_, _, _, _]) Try.func104 rfl (by kernel_rfl) rfl ?_
  (repeat (first | with_reducible refine W.seq ?_ | with_reducible refine Ops.nil ?_ | with_reducible refine W.region ?_ | refine z_p (kk := ?_) | refine z_a (kk := ?_) | refine z_y (kk := ?_) | refine z_n (kk := ?_) | refine z_u (kk := ?_) | with_reducible refine W.skip ?_ | with_reducible refine W.endb ?_ | with_reducible refine W.block ?_ | refine W.exit rfl ?_ | refine z_l (kk := ?_) | refine z_f (kk := ?_) | refine z_M (kk := ?_) | refine z_m (kk := ?_) | refine z_e (kk := ?_) | refine z_E (kk := ?_) | refine z_d (kk := ?_) | refine z_I (kk := fun _ => ?_) | refine z_J (kk := fun _ => ?_) | refine z_K (kk := fun _ => ?_) | refine z_L (kk := fun _ => ?_) | refine z_T (kk := ?_) | refine z_F (kk := ?_) | refine z_k (kk := fun _ _ _ _ _ => ?_) | refine z_w (kk := fun _ _ => ?_) | refine z_s (kk := fun _ _ _ _ => ?_) | refine z_D (kk := ?_) | refine z_g (kk := ?_) | refine z_h (kk := ?_)))
  refine W.loop (fun m ρ w1 => ∃ (i : Nat) (os : List Int), m = b - i ∧ a + 1 ≤ i ∧ ρ = [(0, .slice A os0.length c), (1, .int .i64 a), (2, .int .i64 b), (3, vf), (8, .int .i64 i)] ∧ OH G wB w1 (.slice A os0.length c) os ∧ SegP a (min i b) os0 os ∧ SortK K os a (min i b))
    ⟨_, _, ⟨a + 1, os0, rfl, Nat.le_refl _, by rw [show ((a + 1 : Nat) : Int) = (a : Int) + 1 by omega], hO, SegP.refl _ _ _, fun p q h1 h2 h3 => by omega⟩, (by repeat (first | exact trivial | refine And.intro rfl ?_))⟩ ?_
  clear hO
  rintro m ρ w1 ⟨i, os, rfl, hai, rfl, hO, hS, hK⟩
  (repeat (first | with_reducible refine W.seq ?_ | with_reducible refine Ops.nil ?_ | with_reducible refine W.region ?_ | refine z_p (kk := ?_) | refine z_a (kk := ?_) | refine z_y (kk := ?_) | refine z_n (kk := ?_) | refine z_u (kk := ?_) | with_reducible refine W.skip ?_ | with_reducible refine W.endb ?_ | with_reducible refine W.block ?_ | refine W.exit rfl ?_ | refine z_l (kk := ?_) | refine z_f (kk := ?_) | refine z_M (kk := ?_) | refine z_m (kk := ?_) | refine z_e (kk := ?_) | refine z_E (kk := ?_) | refine z_d (kk := ?_) | refine z_I (kk := fun _ => ?_) | refine z_J (kk := fun _ => ?_) | refine z_K (kk := fun _ => ?_) | refine z_L (kk := fun _ => ?_) | refine z_T (kk := ?_) | refine z_F (kk := ?_) | refine z_k (kk := fun _ _ _ _ _ => ?_) | refine z_w (kk := fun _ _ => ?_) | refine z_s (kk := fun _ _ _ _ => ?_) | refine z_D (kk := ?_) | refine z_g (kk := ?_) | refine z_h (kk := ?_)))
  (first | refine W.condD rfl (fun hc => ?_) (fun hc => ?_) | refine W.condE rfl (fun hc => ?_) (fun hc => ?_) | refine W.condN rfl (fun hc => ?_) (fun hc => ?_) | refine W.cond rfl (fun hc => ?_) (fun hc => ?_))
  · have hib : i < b := by omega
    rw [show min i b = i by omega] at hS hK
    have hI0 := InsI.start hS hK (by omega)
    (repeat (first | with_reducible refine W.seq ?_ | with_reducible refine Ops.nil ?_ | with_reducible refine W.region ?_ | refine z_p (kk := ?_) | refine z_a (kk := ?_) | refine z_y (kk := ?_) | refine z_n (kk := ?_) | refine z_u (kk := ?_) | with_reducible refine W.skip ?_ | with_reducible refine W.endb ?_ | with_reducible refine W.block ?_ | refine W.exit rfl ?_ | refine z_l (kk := ?_) | refine z_f (kk := ?_) | refine z_M (kk := ?_) | refine z_m (kk := ?_) | refine z_e (kk := ?_) | refine z_E (kk := ?_) | refine z_d (kk := ?_) | refine z_I (kk := fun _ => ?_) | refine z_J (kk := fun _ => ?_) | refine z_K (kk := fun _ => ?_) | refine z_L (kk := fun _ => ?_) | refine z_T (kk := ?_) | refine z_F (kk := ?_) | refine z_k (kk := fun _ _ _ _ _ => ?_) | refine z_w (kk := fun _ _ => ?_) | refine z_s (kk := fun _ _ _ _ => ?_) | refine z_D (kk := ?_) | refine z_g (kk := ?_) | refine z_h (kk := ?_)))
    refine W.loop (fun m ρ w2 => ∃ (j : Nat) (os : List Int), m = j ∧ ρ = [(0, .slice A os0.length c), (1, .int .i64 a), (2, .int .i64 b), (3, vf), (8, .int .i64 i), (9, .int .i64 j)] ∧ OH G wB w2 (.slice A os0.length c) os ∧ InsI K os0 a i j os)
      ⟨_, _, ⟨i, os, rfl, rfl, hO, hI0⟩, (by repeat (first | exact trivial | refine And.intro rfl ?_))⟩ ?_
    clear hO hI0 hS hK
    rintro m ρ w2 ⟨j, os, hm, rfl, hO, hI⟩
    subst m
    have hb2 := hO.bel
    have hol := hI.seg.len
    have hji := hI.ji
    have haj := hI.aj
    have hdone : (j = a ∨ ∃ m : Nat, j = m + 1 ∧ K (os.getD m 0) < K (os0.getD i 0)) → SegP a (min (i + 1) b) os0 os ∧ SortK K os a (min (i + 1) b) := fun hd => by
      rw [show min (i + 1) b = i + 1 by omega]
      exact ⟨hI.seg, hI.done hd⟩
    by_cases hj : a < j
    · obtain ⟨q, rfl⟩ : ∃ q, j = q + 1 := ⟨j - 1, by omega⟩
      have hsl : SlI w2 (.slice A os0.length c) os := hO.sl
      (repeat (first | with_reducible refine W.seq ?_ | with_reducible refine Ops.nil ?_ | with_reducible refine W.region ?_ | refine z_p (kk := ?_) | refine z_a (kk := ?_) | refine z_y (kk := ?_) | refine z_n (kk := ?_) | refine z_u (kk := ?_) | with_reducible refine W.skip ?_ | with_reducible refine W.endb ?_ | with_reducible refine W.block ?_ | refine W.exit rfl ?_ | refine z_l (kk := ?_) | refine z_f (kk := ?_) | refine z_M (kk := ?_) | refine z_m (kk := ?_) | refine z_e (kk := ?_) | refine z_E (kk := ?_) | refine z_d (kk := ?_) | refine z_I (kk := fun _ => ?_) | refine z_J (kk := fun _ => ?_) | refine z_K (kk := fun _ => ?_) | refine z_L (kk := fun _ => ?_) | refine z_T (kk := ?_) | refine z_F (kk := ?_) | refine z_k (kk := fun _ _ _ _ _ => ?_) | refine z_w (kk := fun _ _ => ?_) | refine z_s (kk := fun _ _ _ _ => ?_) | refine z_D (kk := ?_) | refine z_g (kk := ?_) | refine z_h (kk := ?_)))
      refine W.ordA 99 [(0, 1), (1, 1), (2, 1), (3, 1), (4, 1), (5, 1), (6, 1), (7, 1), (8, 2), (9, 1), (10, 1), (11, 1), (12, 1), (13, 2), (14, 2), (15, 1), (16, 1)] rfl (by kernel_rfl) rfl (by kernel_rfl) (fun _ _ _ h => h) ?_
      (repeat (first | refine x_p (kk := ?_) | refine x_n (kk := ?_) | refine x_a (kk := ?_) | refine x_l (kk := ?_) | refine x_M (kk := ?_) | refine x_m (kk := ?_) | refine x_e (kk := ?_) | refine x_E (kk := ?_) | refine x_T (kk := ?_) | refine x_F (kk := ?_) | refine x_I (kk := fun _ => ?_) | refine x_J (kk := fun _ => ?_) | refine x_K (kk := fun _ => ?_) | refine x_L (kk := fun _ => ?_) | refine x_k (kk := fun _ _ _ _ _ => ?_) | refine x_w (kk := fun _ _ => ?_) | refine x_s (kk := fun _ _ _ _ => ?_)))
      (first | refine x_t (kk := ?_) | refine x_f (kk := ?_))
      (repeat (first | refine x_p (kk := ?_) | refine x_n (kk := ?_) | refine x_a (kk := ?_) | refine x_l (kk := ?_) | refine x_M (kk := ?_) | refine x_m (kk := ?_) | refine x_e (kk := ?_) | refine x_E (kk := ?_) | refine x_T (kk := ?_) | refine x_F (kk := ?_) | refine x_I (kk := fun _ => ?_) | refine x_J (kk := fun _ => ?_) | refine x_K (kk := fun _ => ?_) | refine x_L (kk := fun _ => ?_) | refine x_k (kk := fun _ _ _ _ _ => ?_) | refine x_w (kk := fun _ _ => ?_) | refine x_s (kk := fun _ _ _ _ => ?_)))
      obtain ⟨r, r1, r2, r3⟩ := hI.old q (by omega) (by omega) (by omega)
      have hcm := hcc r i r1 r2 hib
      refine OrdA.call rfl rfl rfl rfl rfl (callV_f hvf rfl rfl rfl) hfm (v := .int .i64 (cv (os0.getD i 0) (os0.getD r 0))) (fun w' hw' => ?_) ?_
      · rw [hI.cur, show (((q + 1 : Nat) : Int) - 1).toNat = q by omega, r3]
        exact (hcm.call w' (Below.via hb2 hw') (hGs _ _ hO.g (Kp.of_below hw'))).mono fun e w'' ⟨v, he, hv, hb⟩ => ⟨v, he, hv, Below.via hw' hb⟩
      (repeat (first | refine x_p (kk := ?_) | refine x_n (kk := ?_) | refine x_a (kk := ?_) | refine x_l (kk := ?_) | refine x_M (kk := ?_) | refine x_m (kk := ?_) | refine x_e (kk := ?_) | refine x_E (kk := ?_) | refine x_T (kk := ?_) | refine x_F (kk := ?_) | refine x_I (kk := fun _ => ?_) | refine x_J (kk := fun _ => ?_) | refine x_K (kk := fun _ => ?_) | refine x_L (kk := fun _ => ?_) | refine x_k (kk := fun _ _ _ _ _ => ?_) | refine x_w (kk := fun _ _ => ?_) | refine x_s (kk := fun _ _ _ _ => ?_)))
      refine OrdA.nil (fun w3 hb3 => ?_)
      have hO3 := hO.below hGs hb3
      clear hO hsl
      (repeat (first | with_reducible refine W.seq ?_ | with_reducible refine Ops.nil ?_ | with_reducible refine W.region ?_ | refine z_p (kk := ?_) | refine z_a (kk := ?_) | refine z_y (kk := ?_) | refine z_n (kk := ?_) | refine z_u (kk := ?_) | with_reducible refine W.skip ?_ | with_reducible refine W.endb ?_ | with_reducible refine W.block ?_ | refine W.exit rfl ?_ | refine z_l (kk := ?_) | refine z_f (kk := ?_) | refine z_M (kk := ?_) | refine z_m (kk := ?_) | refine z_e (kk := ?_) | refine z_E (kk := ?_) | refine z_d (kk := ?_) | refine z_I (kk := fun _ => ?_) | refine z_J (kk := fun _ => ?_) | refine z_K (kk := fun _ => ?_) | refine z_L (kk := fun _ => ?_) | refine z_T (kk := ?_) | refine z_F (kk := ?_) | refine z_k (kk := fun _ _ _ _ _ => ?_) | refine z_w (kk := fun _ _ => ?_) | refine z_s (kk := fun _ _ _ _ => ?_) | refine z_D (kk := ?_) | refine z_g (kk := ?_) | refine z_h (kk := ?_)))
      (first | refine W.condD rfl (fun hc => ?_) (fun hc => ?_) | refine W.condE rfl (fun hc => ?_) (fun hc => ?_) | refine W.condN rfl (fun hc => ?_) (fun hc => ?_) | refine W.cond rfl (fun hc => ?_) (fun hc => ?_))
      · have hlt : K (os0.getD i 0) < K (os.getD q 0) := by rw [r3]; exact hcm.lt.1 hc
        have hI' := hI.step (by omega) (by omega) hlt
        have hsl3 : SlI w3 (.slice A os0.length c) os := hO3.sl
        (repeat (first | with_reducible refine W.seq ?_ | with_reducible refine Ops.nil ?_ | with_reducible refine W.region ?_ | refine z_p (kk := ?_) | refine z_a (kk := ?_) | refine z_y (kk := ?_) | refine z_n (kk := ?_) | refine z_u (kk := ?_) | with_reducible refine W.skip ?_ | with_reducible refine W.endb ?_ | with_reducible refine W.block ?_ | refine W.exit rfl ?_ | refine z_l (kk := ?_) | refine z_f (kk := ?_) | refine z_M (kk := ?_) | refine z_m (kk := ?_) | refine z_e (kk := ?_) | refine z_E (kk := ?_) | refine z_d (kk := ?_) | refine z_I (kk := fun _ => ?_) | refine z_J (kk := fun _ => ?_) | refine z_K (kk := fun _ => ?_) | refine z_L (kk := fun _ => ?_) | refine z_T (kk := ?_) | refine z_F (kk := ?_) | refine z_k (kk := fun _ _ _ _ _ => ?_) | refine z_w (kk := fun _ _ => ?_) | refine z_s (kk := fun _ _ _ _ => ?_) | refine z_D (kk := ?_) | refine z_g (kk := ?_) | refine z_h (kk := ?_)))
        refine W.ordA 15 [(0, 1), (1, 1), (2, 1), (3, 1), (4, 1), (5, 1), (6, 1), (7, 1), (8, 1), (9, 2), (10, 1), (11, 1), (12, 1), (13, 2), (14, 1), (15, 0), (16, 1), (17, 0)] rfl (by kernel_rfl) rfl (by kernel_rfl) (fun _ _ _ h => h) ?_
        (repeat (first | refine x_p (kk := ?_) | refine x_n (kk := ?_) | refine x_a (kk := ?_) | refine x_l (kk := ?_) | refine x_M (kk := ?_) | refine x_m (kk := ?_) | refine x_e (kk := ?_) | refine x_E (kk := ?_) | refine x_T (kk := ?_) | refine x_F (kk := ?_) | refine x_I (kk := fun _ => ?_) | refine x_J (kk := fun _ => ?_) | refine x_K (kk := fun _ => ?_) | refine x_L (kk := fun _ => ?_) | refine x_k (kk := fun _ _ _ _ _ => ?_) | refine x_w (kk := fun _ _ => ?_) | refine x_s (kk := fun _ _ _ _ => ?_)))
        refine OrdA.wrO (os := os) rfl rfl rfl rfl rfl rfl rfl rfl rfl rfl rfl rfl rfl rfl (fun _ => rfl) rfl hO3.oi (fun _ h => h) (by omega) (by omega) (fun w4 w5 p hF4 hO5 hk5 hz5 => ?_)
        refine VW.Ord.wrO (os := os.set ((q + 1 : Nat) : Int).toNat (os.getD (((q + 1 : Nat) : Int) - 1).toNat 0)) rfl rfl rfl rfl rfl rfl rfl rfl rfl rfl rfl rfl rfl rfl (fun _ => rfl) rfl hO5 (by omega) (by rw [List.length_set]; omega) (fun _ _ _ h => h) (fun w6 p6 hO6 hk6 hz6 => ?_)
        refine VW.Ord.nil ?_
        replace hO6 := hO3.wr hGs hF4 hk5 hk6 hO6
        rw [show (((q + 1 : Nat) : Int) - 1).toNat = q by omega, show ((q + 1 : Nat) : Int).toNat = q + 1 by omega] at hO6
        have e1 : ((q + 1 : Nat) : Int) - 1 = (q : Int) := by omega
        (repeat (first | with_reducible refine W.seq ?_ | with_reducible refine Ops.nil ?_ | with_reducible refine W.region ?_ | refine z_p (kk := ?_) | refine z_a (kk := ?_) | refine z_y (kk := ?_) | refine z_n (kk := ?_) | refine z_u (kk := ?_) | with_reducible refine W.skip ?_ | with_reducible refine W.endb ?_ | with_reducible refine W.block ?_ | refine W.exit rfl ?_ | refine z_l (kk := ?_) | refine z_f (kk := ?_) | refine z_M (kk := ?_) | refine z_m (kk := ?_) | refine z_e (kk := ?_) | refine z_E (kk := ?_) | refine z_d (kk := ?_) | refine z_I (kk := fun _ => ?_) | refine z_J (kk := fun _ => ?_) | refine z_K (kk := fun _ => ?_) | refine z_L (kk := fun _ => ?_) | refine z_T (kk := ?_) | refine z_F (kk := ?_) | refine z_k (kk := fun _ _ _ _ _ => ?_) | refine z_w (kk := fun _ _ => ?_) | refine z_s (kk := fun _ _ _ _ => ?_) | refine z_D (kk := ?_) | refine z_g (kk := ?_) | refine z_h (kk := ?_)))
        simp only [e1]
        exact W.endl ⟨_, _, ⟨⟨q, _, rfl, rfl, hO6, hI'⟩, by omega⟩, (by repeat (first | exact trivial | refine And.intro rfl ?_))⟩
      · have hlt : K (os.getD q 0) < K (os0.getD i 0) := by
          have h1 := hcm.lt
          have h2 := hcm.ne
          rw [r3]
          omega
        have hd := hdone (.inr ⟨q, rfl, hlt⟩)
        (repeat (first | with_reducible refine W.seq ?_ | with_reducible refine Ops.nil ?_ | with_reducible refine W.region ?_ | refine z_p (kk := ?_) | refine z_a (kk := ?_) | refine z_y (kk := ?_) | refine z_n (kk := ?_) | refine z_u (kk := ?_) | with_reducible refine W.skip ?_ | with_reducible refine W.endb ?_ | with_reducible refine W.block ?_ | refine W.exit rfl ?_ | refine z_l (kk := ?_) | refine z_f (kk := ?_) | refine z_M (kk := ?_) | refine z_m (kk := ?_) | refine z_e (kk := ?_) | refine z_E (kk := ?_) | refine z_d (kk := ?_) | refine z_I (kk := fun _ => ?_) | refine z_J (kk := fun _ => ?_) | refine z_K (kk := fun _ => ?_) | refine z_L (kk := fun _ => ?_) | refine z_T (kk := ?_) | refine z_F (kk := ?_) | refine z_k (kk := fun _ _ _ _ _ => ?_) | refine z_w (kk := fun _ _ => ?_) | refine z_s (kk := fun _ _ _ _ => ?_) | refine z_D (kk := ?_) | refine z_g (kk := ?_) | refine z_h (kk := ?_)))
        exact W.endl ⟨_, _, ⟨⟨i + 1, _, rfl, by omega, rfl, hO3, hd.1, hd.2⟩, by omega⟩, (by repeat (first | exact trivial | refine And.intro rfl ?_))⟩
    · have hja : j = a := by omega
      have hd := hdone (.inl hja)
      (repeat (first | with_reducible refine W.seq ?_ | with_reducible refine Ops.nil ?_ | with_reducible refine W.region ?_ | refine z_p (kk := ?_) | refine z_a (kk := ?_) | refine z_y (kk := ?_) | refine z_n (kk := ?_) | refine z_u (kk := ?_) | with_reducible refine W.skip ?_ | with_reducible refine W.endb ?_ | with_reducible refine W.block ?_ | refine W.exit rfl ?_ | refine z_l (kk := ?_) | refine z_f (kk := ?_) | refine z_M (kk := ?_) | refine z_m (kk := ?_) | refine z_e (kk := ?_) | refine z_E (kk := ?_) | refine z_d (kk := ?_) | refine z_I (kk := fun _ => ?_) | refine z_J (kk := fun _ => ?_) | refine z_K (kk := fun _ => ?_) | refine z_L (kk := fun _ => ?_) | refine z_T (kk := ?_) | refine z_F (kk := ?_) | refine z_k (kk := fun _ _ _ _ _ => ?_) | refine z_w (kk := fun _ _ => ?_) | refine z_s (kk := fun _ _ _ _ => ?_) | refine z_D (kk := ?_) | refine z_g (kk := ?_) | refine z_h (kk := ?_)))
      refine W.ordA 99 [(0, 1), (1, 1), (2, 1), (3, 1), (4, 1), (5, 1), (6, 1), (7, 1), (8, 2), (9, 1), (10, 1), (11, 1), (12, 1), (13, 2), (14, 2), (15, 1), (16, 1)] rfl (by kernel_rfl) rfl (by kernel_rfl) (fun _ _ _ h => h) ?_
      (repeat (first | refine x_p (kk := ?_) | refine x_n (kk := ?_) | refine x_a (kk := ?_) | refine x_l (kk := ?_) | refine x_M (kk := ?_) | refine x_m (kk := ?_) | refine x_e (kk := ?_) | refine x_E (kk := ?_) | refine x_T (kk := ?_) | refine x_F (kk := ?_) | refine x_I (kk := fun _ => ?_) | refine x_J (kk := fun _ => ?_) | refine x_K (kk := fun _ => ?_) | refine x_L (kk := fun _ => ?_) | refine x_k (kk := fun _ _ _ _ _ => ?_) | refine x_w (kk := fun _ _ => ?_) | refine x_s (kk := fun _ _ _ _ => ?_)))
      (first | refine x_t (kk := ?_) | refine x_f (kk := ?_))
      (repeat (first | refine x_p (kk := ?_) | refine x_n (kk := ?_) | refine x_a (kk := ?_) | refine x_l (kk := ?_) | refine x_M (kk := ?_) | refine x_m (kk := ?_) | refine x_e (kk := ?_) | refine x_E (kk := ?_) | refine x_T (kk := ?_) | refine x_F (kk := ?_) | refine x_I (kk := fun _ => ?_) | refine x_J (kk := fun _ => ?_) | refine x_K (kk := fun _ => ?_) | refine x_L (kk := fun _ => ?_) | refine x_k (kk := fun _ _ _ _ _ => ?_) | refine x_w (kk := fun _ _ => ?_) | refine x_s (kk := fun _ _ _ _ => ?_)))
      refine OrdA.nil (fun w3 hb3 => ?_)
      have hO3 := hO.below hGs hb3
      clear hO
      (repeat (first | with_reducible refine W.seq ?_ | with_reducible refine Ops.nil ?_ | with_reducible refine W.region ?_ | refine z_p (kk := ?_) | refine z_a (kk := ?_) | refine z_y (kk := ?_) | refine z_n (kk := ?_) | refine z_u (kk := ?_) | with_reducible refine W.skip ?_ | with_reducible refine W.endb ?_ | with_reducible refine W.block ?_ | refine W.exit rfl ?_ | refine z_l (kk := ?_) | refine z_f (kk := ?_) | refine z_M (kk := ?_) | refine z_m (kk := ?_) | refine z_e (kk := ?_) | refine z_E (kk := ?_) | refine z_d (kk := ?_) | refine z_I (kk := fun _ => ?_) | refine z_J (kk := fun _ => ?_) | refine z_K (kk := fun _ => ?_) | refine z_L (kk := fun _ => ?_) | refine z_T (kk := ?_) | refine z_F (kk := ?_) | refine z_k (kk := fun _ _ _ _ _ => ?_) | refine z_w (kk := fun _ _ => ?_) | refine z_s (kk := fun _ _ _ _ => ?_) | refine z_D (kk := ?_) | refine z_g (kk := ?_) | refine z_h (kk := ?_)))
      refine W.condF rfl (by first | rfl | assumption | (simp only [bnf] <;> omega) | (simp only [*, bnf]; done) | fail) ?_
      (repeat (first | with_reducible refine W.seq ?_ | with_reducible refine Ops.nil ?_ | with_reducible refine W.region ?_ | refine z_p (kk := ?_) | refine z_a (kk := ?_) | refine z_y (kk := ?_) | refine z_n (kk := ?_) | refine z_u (kk := ?_) | with_reducible refine W.skip ?_ | with_reducible refine W.endb ?_ | with_reducible refine W.block ?_ | refine W.exit rfl ?_ | refine z_l (kk := ?_) | refine z_f (kk := ?_) | refine z_M (kk := ?_) | refine z_m (kk := ?_) | refine z_e (kk := ?_) | refine z_E (kk := ?_) | refine z_d (kk := ?_) | refine z_I (kk := fun _ => ?_) | refine z_J (kk := fun _ => ?_) | refine z_K (kk := fun _ => ?_) | refine z_L (kk := fun _ => ?_) | refine z_T (kk := ?_) | refine z_F (kk := ?_) | refine z_k (kk := fun _ _ _ _ _ => ?_) | refine z_w (kk := fun _ _ => ?_) | refine z_s (kk := fun _ _ _ _ => ?_) | refine z_D (kk := ?_) | refine z_g (kk := ?_) | refine z_h (kk := ?_)))
      exact W.endl ⟨_, _, ⟨⟨i + 1, _, rfl, by omega, rfl, hO3, hd.1, hd.2⟩, by omega⟩, (by repeat (first | exact trivial | refine And.intro rfl ?_))⟩
  · have hib : b ≤ i := by omega
    rw [show min i b = b by omega] at hS hK
    (repeat (first | with_reducible refine W.seq ?_ | with_reducible refine Ops.nil ?_ | with_reducible refine W.region ?_ | refine z_p (kk := ?_) | refine z_a (kk := ?_) | refine z_y (kk := ?_) | refine z_n (kk := ?_) | refine z_u (kk := ?_) | with_reducible refine W.skip ?_ | with_reducible refine W.endb ?_ | with_reducible refine W.block ?_ | refine W.exit rfl ?_ | refine z_l (kk := ?_) | refine z_f (kk := ?_) | refine z_M (kk := ?_) | refine z_m (kk := ?_) | refine z_e (kk := ?_) | refine z_E (kk := ?_) | refine z_d (kk := ?_) | refine z_I (kk := fun _ => ?_) | refine z_J (kk := fun _ => ?_) | refine z_K (kk := fun _ => ?_) | refine z_L (kk := fun _ => ?_) | refine z_T (kk := ?_) | refine z_F (kk := ?_) | refine z_k (kk := fun _ _ _ _ _ => ?_) | refine z_w (kk := fun _ _ => ?_) | refine z_s (kk := fun _ _ _ _ => ?_) | refine z_D (kk := ?_) | refine z_g (kk := ?_) | refine z_h (kk := ?_)))
    exact W.fend rfl ⟨os, hO, hS, hK⟩
end Go.Proofs.Ytdiljpnfochndaa
