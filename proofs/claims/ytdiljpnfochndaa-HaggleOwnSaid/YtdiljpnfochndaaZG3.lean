/- A part of the walk: what this seat's statements share. -/
import Derived.Test.YtdiljpnfochndaaZG2
import Derived.Test.YtdiljpnfochndaaZG1
import Derived.Test.YtdiljpnfochndaaProg
set_option linter.unusedVariables false
set_option linter.unusedSimpArgs false
set_option linter.unusedSectionVars false
/- Drawn regions in which two effects may come in either order. -/
namespace Go.Proofs.Ytdiljpnfochndaa.VW
open Go Go.RowKit
section
variable {P : Program} [hT : Tab P] {n : Nat} {ds : List Deferred} {Φ : Post} {k : List It} {ρ : E} {w : World} {all : Array Oper} {l : List Oper} {md : Option (List Oper)} {s : Nat} {F : World → Prop} {π : List (Nat × Nat)} {L : List Bool} {m : Nat}
def OrdX (P : Program) (n : Nat) (ds : List Deferred) (all : Array Oper) (k : List It) (Φ : Post) (m : Nat) (L : List Bool) (ρ : E) (w : World) : Prop :=
  Region.noSelect all = true → (all.toList.all fun o => dOk n o.dst) = true → Cl .any all L.toArray → (∀ c ρ w, ¬ Φ (.panic c) ρ w) → ∀ a, Rep n a ρ → a.defers = ds → wpAnyI P .any all (lift n ds (Qof P n ds Φ k)) (SF all 9999 (fun _ => True)) m L.toArray a w
omit hT in
theorem OrdX.of {π : List (Nat × Nat)} (hc : chk all 9999 π L = true) (hm : m = π.length) (h : Ord P n ds all k Φ 9999 (fun _ => True) π L ρ w) : OrdX P n ds all k Φ m L ρ w := by
  subst hm
  exact fun h1 h2 h3 _ a hr hd => h hc h1 h2 h3 (fun _ => trivial) a hr hd
def pureB (all : Array Oper) (L : List Bool) (i : Nat) : Bool := Region.free .any all L.toArray i && (Region.ready .any all L.toArray).contains i && (i != 9999)
omit hT in
theorem OrdX.pure {d : Nat} {o : Oper} {v : Value} {c : Bool} (i : Nat) (hp : pureB all L i = true) (ho : all[i]? = some o) (hd : o.dst = some d) (hg : gdB all ρ o.guard = some c) (hgc : c = true) (hev : ∀ w, EV P n ρ w o v)
    (h : OrdX P n ds all k Φ m (L.set i true) ((d, v) :: ρ) w) : OrdX P n ds all k Φ (m + 1) L ρ w := by
  subst hgc
  intro hs hdo hcl hΦ a hr hds
  simp only [pureB, Bool.and_eq_true, bne_iff_ne] at hp
  have hdn : dOk n o.dst = true := by
    rw [List.all_eq_true] at hdo
    exact hdo o (by rw [← Array.getElem?_toList] at ho; exact List.mem_of_getElem? ho)
  refine wpAnyI_take ho hs hp.1.1 hp.1.2 (fun c a w hq => by obtain ⟨ρ', _, _, hq⟩ := hq; exact absurd hq (pan_no hΦ k c ρ' w)) (SF.inv hp.2) (G := fun _ => True) (fun _ _ _ _ _ => trivial) hcl (v := v) (.inl ⟨gdB_wanted hg hr, fun w' _ => hev w' a hr⟩) (fun _ => trivial) ?_
  have := h hs hdo (by rw [← List.setIfInBounds_toArray]; exact hcl.set (by simpa using hp.1.2)) hΦ (a.put o.dst v) (by have := hr.put hdn v; rw [hd] at this ⊢; exact this) (by rw [hd]; exact hds)
  rw [List.setIfInBounds_toArray]
  exact this
omit hT in
theorem OrdX.one_ {i : Nat} {o : Oper} (ho : all[i]? = some o) (hr : (Region.ready .any all L.toArray).contains i = true)
    (h : Ops none P n ds all (.lp (fun ρ1 w1 => OrdX P n ds all k Φ m (L.set i true) ρ1 w1) :: k) Φ [o] ρ w) (hs : Region.noSelect all = true) (hdo : (all.toList.all fun o => dOk n o.dst) = true) (hcl : Cl .any all L.toArray) (hΦ : ∀ c ρ w, ¬ Φ (.panic c) ρ w) {a : Act} (har : Rep n a ρ) (hds : a.defers = ds) :
    wpOp P all (lift n ds (Qof P n ds Φ k)) i (fun a' w' => SF all 9999 (fun _ => True) (L.toArray.setIfInBounds i true) w' ∧ wpAnyI P .any all (lift n ds (Qof P n ds Φ k)) (SF all 9999 (fun _ => True)) m (L.toArray.setIfInBounds i true) a' w') a w := by
  have hdn : dOk n o.dst = true := by
    rw [List.all_eq_true] at hdo
    exact hdo o (by rw [← Array.getElem?_toList] at ho; exact List.mem_of_getElem? ho)
  have h' : wpList P all (lift n ds (Qof P n ds Φ (.lp (fun ρ1 w1 => OrdX P n ds all k Φ m (L.set i true) ρ1 w1) :: k))) [o] a w := h (by simp [hdn]) a har hds
  have hcl' : Cl .any all (L.set i true).toArray := by rw [← List.setIfInBounds_toArray]; exact hcl.set (by simpa using hr)
  have hK : ∀ a' w', wpList P all (lift n ds (Qof P n ds Φ (.lp (fun ρ1 w1 => OrdX P n ds all k Φ m (L.set i true) ρ1 w1) :: k))) [] a' w' → SF all 9999 (fun _ => True) (L.toArray.setIfInBounds i true) w' ∧ wpAnyI P .any all (lift n ds (Qof P n ds Φ k)) (SF all 9999 (fun _ => True)) m (L.toArray.setIfInBounds i true) a' w' := by
    rintro a' w' ⟨ρ1, hr1, hd1, hO⟩
    rw [List.setIfInBounds_toArray]
    exact ⟨fun _ => trivial, hO hs hdo hcl' hΦ a' hr1 hd1⟩
  have hq : ∀ c a w, lift n ds (Qof P n ds Φ (.lp (fun ρ1 w1 => OrdX P n ds all k Φ m (L.set i true) ρ1 w1) :: k)) (.panic c) a w → lift n ds (Qof P n ds Φ k) (.panic c) a w := fun _ _ _ h => h
  unfold wpList at h'
  unfold wpOp
  simp only [ho]
  split
  · rename_i hw
    rw [if_pos hw] at h'
    rcases h' with h' | ⟨h1, a', w', h2⟩
    · left
      unfold Oper.wp at h' ⊢
      generalize (execOp a.eval o).run P w = r at *
      cases r with
      | ok nx w' =>
        cases nx <;> simp only [Oper.upon] at h' ⊢
        case value v => exact hK _ _ h'
        case skip => exact hK _ _ h'
        case defer d => exact hK _ _ h'
        case enter f args =>
          refine h'.mono fun e w'' he => ?_
          cases e with
          | returned v => exact hK _ _ he
          | panicked ch => exact hq _ _ _ he
          | outgrown => obtain ⟨a, w, ho⟩ := he; exact ⟨a, w, ho⟩
        case row r args => exact h'.mono fun v w'' hv => hK _ _ hv
      | halt x w' =>
        cases x <;> simp only [Oper.upon] at h' ⊢
        exact hq _ _ _ h'
    · exact .inr ⟨h1, a', w', h2⟩
  · rename_i hw
    rw [if_neg hw] at h'
    exact hK _ _ h'
omit hT in
theorem OrdX.both {oi oj : Oper} (i j : Nat) (hr : (Region.ready .any all L.toArray == [i, j]) = true) (hoi : all[i]? = some oi) (hoj : all[j]? = some oj)
    (h1 : Ops none P n ds all (.lp (fun ρ1 w1 => OrdX P n ds all k Φ m (L.set i true) ρ1 w1) :: k) Φ [oi] ρ w)
    (h2 : Ops none P n ds all (.lp (fun ρ1 w1 => OrdX P n ds all k Φ m (L.set j true) ρ1 w1) :: k) Φ [oj] ρ w) : OrdX P n ds all k Φ (m + 1) L ρ w := by
  have hr := eq_of_beq hr
  intro hs hdo hcl hΦ a har hds
  refine wpAnyI_all hr (by simp) fun q hq => ?_
  simp only [List.mem_cons, List.not_mem_nil, or_false] at hq
  rcases hq with rfl | rfl
  · exact OrdX.one_ hoi (by rw [hr]; simp) h1 hs hdo hcl hΦ har hds
  · exact OrdX.one_ hoj (by rw [hr]; simp) h2 hs hdo hcl hΦ har hds
omit hT in
theorem OrdX.one {oi : Oper} (i : Nat) (hr : (Region.ready .any all L.toArray == [i]) = true) (hoi : all[i]? = some oi)
    (h1 : Ops none P n ds all (.lp (fun ρ1 w1 => OrdX P n ds all k Φ m (L.set i true) ρ1 w1) :: k) Φ [oi] ρ w) : OrdX P n ds all k Φ (m + 1) L ρ w := by
  have hr := eq_of_beq hr
  intro hs hdo hcl hΦ a har hds
  refine wpAnyI_all hr (by simp) fun q hq => ?_
  simp only [List.mem_singleton] at hq
  subst hq
  exact OrdX.one_ hoi (by rw [hr]; simp) h1 hs hdo hcl hΦ har hds
omit hT in
theorem OrdX.done (hr : (Region.ready .any all L.toArray).isEmpty = true) (h : W P n ds k Φ ρ w) : OrdX P n ds all k Φ m L ρ w := fun _ _ _ _ a har hds => wpAnyI_done (by simpa using hr) ⟨ρ, har, LiftD.mk hds h⟩ _
omit hT in
theorem W.ordX {id : Nat} {ops : Array Oper} (m : Nat) (hm : P.follows .mixedOrders = true) (hs : Region.noSelect ops = true) (hlen : m = ops.size) (hΦ : ∀ c ρ w, ¬ Φ (.panic c) ρ w)
    (h : ∀ w', Kp (fun _ => False) w w' → OrdX P n ds ops k Φ m (List.replicate m false) ρ w') : W P n ds (.code (.region id ops true) :: k) Φ ρ w := by
  intro hi a hr hd
  refine wp_region_I (S := SF ops 9999 (fun _ => True)) hm ?_
  have := h _ (kp_drew w) hs (by simpa [inB] using hi) (by rw [List.toArray_replicate]; exact Cl.start _) hΦ a hr hd
  rw [← hlen]
  rw [List.toArray_replicate] at this
  exact this
theorem EV.bld2 {o : Oper} {t : Nat} {x y : Operand} {u v z0 z1 : Value} (ho : o.op = .build t #[(0, x), (1, y)])
    (ht : tyD P t = some (.struct [(0, 1), (1, 1)])) (hz : tyZ P t = some (.agg #[z0, z1])) (hx : ev ρ x = some u) (hy : ev ρ y = some v) (h1 : u.oneCell' = true) (h2 : v.oneCell' = true) : EV P n ρ w o (.agg #[u, v]) := by
  intro a hr
  obtain ⟨gs, hu, hm⟩ := td_struct (tyD_ok ht)
  have hsz : ∃ f g, gs = #[f, g] ∧ f.offset = 0 ∧ g.offset = 1 ∧ ((P.info? f.type).map (·.size)).getD 0 = 1 ∧ ((P.info? g.type).map (·.size)).getD 0 = 1 := by
    obtain ⟨L⟩ := gs
    rcases L with _ | ⟨f, _ | ⟨g, _ | ⟨h, r⟩⟩⟩
    · simp at hm
    · simp at hm
    · simp at hm; exact ⟨f, g, rfl, hm.1.1, hm.2.1, hm.1.2, hm.2.2⟩
    · simp at hm
  obtain ⟨f, g, rfl, hf0, hg1, hfs, hgs⟩ := hsz
  have q1 : ∃ i, P.info? f.type = some i ∧ i.size = 1 := by
    cases hi : P.info? f.type with
    | none => rw [hi] at hfs; simp at hfs
    | some i => rw [hi] at hfs; exact ⟨i, rfl, by simpa using hfs⟩
  have q2 : ∃ i, P.info? g.type = some i ∧ i.size = 1 := by
    cases hi : P.info? g.type with
    | none => rw [hi] at hgs; simp at hgs
    | some i => rw [hi] at hgs; exact ⟨i, rfl, by simpa using hgs⟩
  obtain ⟨i1, e1, s1⟩ := q1
  obtain ⟨i2, e2, s2⟩ := q2
  have hcu : u.cells = #[u] := by cases u <;> simp_all [Value.oneCell', Value.cells]
  have hcv : v.cells = #[v] := by cases v <;> simp_all [Value.oneCell', Value.cells]
  have hcz : (Value.agg #[z0, z1]).cells = #[z0, z1] := rfl
  simp only [execOp, ho]
  simp [Instr.build, hr.ev hx, hr.ev hy, run_zeroV hz, run_und hu, sizeOf, typeInfo, e1, e2, s1, s2, hf0, hg1, Instr.fill, hcu, hcv, hcz]
/-! ### Slices -/
/-- A literal of one element of two cells; then appended. -/
theorem Ord.push2 {i1 i2 : Nat} {o1 o2 : Oper} {d1 d2 t e by' nn : Nat} {x y : Operand} {a b lv z0 z1 : Value} {xs : List Value} {w0 : World}
    (e1 : all[i1]? = some o1) (h1 : o1.op = .buildSlice t 1 #[(0, x)]) (hd1 : o1.dst = some d1) (hg1 : o1.guard = none) (e2 : all[i2]? = some o2) (h2 : o2.op = .call { callee := .builtin .append, args := #[y, .tmp d1], argTypes := #[t, t] }) (hd2 : o2.dst = some d2) (hg2 : o2.guard = none)
    (ht : tyD P t = some (.slice e)) (hs : tyS P e = some 2) (hb : tyB P e = some (by' + 1)) (hz : tyZ P e = some (.agg #[z0, z1])) (hx : ev ρ x = some (.agg #[a, b])) (hy : ∀ p, ev ((d1, p) :: ρ) y = some lv) (ha : a.oneCell' = true) (hb1 : b.oneCell' = true)
    (hown : w.ownsRow 0 e 2 lv nn xs) (hbytes : (nn + 1) * (by' + 1) ≤ 140737488355328) (hF : ∀ w w' S, F w → Kp S w w' → (∀ i, S i → w0.heap.size ≤ i) → F w') (hw : F w) (hge : ∀ i, lv.ownBlock = some i → w0.heap.size ≤ i)
    (hk : ∀ lv' p w', F w' → w'.ownsRow 0 e 2 lv' (nn + 1) (xs ++ [a, b]) → Kp (fun i => lv.ownBlock = some i) w w' → (∀ i, lv'.ownBlock = some i → lv.ownBlock = some i ∨ w.heap.size ≤ i) → Ord P n ds all k Φ s F π ((L.set i1 true).set i2 true) ((d2, lv') :: (d1, p) :: ρ) w') : Ord P n ds all k Φ s F ((i1, 0) :: (i2, 0) :: π) L ρ w := by
  have hr2 : Array.range 2 = #[0, 1] := rfl
  refine Ord.effF e1 (Ops.bsG (cs := #[a, b]) h1 hd1 hg1 ht hs hz (vs := [(0, .agg #[a, b])]) (by simp [evP, hx]) rfl rfl (by simp [Instr.fill, Value.cells, hr2]) (fun w1 r hM => Ops.nil (W.endl ⟨hF _ _ _ hw hM.kp (fun _ e => e.elim), ?_⟩)))
  have hB : Blk w1 r #[a, b] e := hM.at_
  refine Ord.effF e2 (Ops.app (sz := 1) (news := [a, b]) (m := 1) (A := ⟨r, 0, none⟩) (c := 1) h2 hd2 hg2 ht hs hb hz rfl (hy _) (ev_top _ _ _) (own_kp hown hM.kp (fun _ _ e => e)) rfl ?_ (by simp [ha, hb1]) hbytes (fun v' w' ho hk' hn => Ops.nil (W.endl ?_)))
  · intro j u hu
    rw [add_lit, Nat.zero_add]
    exact hB.cell (by simpa using hu)
  · have hk2 : Kp (fun i => lv.ownBlock = some i) w w' := (hM.kp.trans hk').mono (fun i _ e => by rcases e with e | e; exact e.elim; exact e)
    have hF' := hF _ _ _ hw hk2 hge
    refine ⟨hF', hk v' _ w' hF' ho hk2 ?_⟩
    intro i hi
    rcases hn i hi with h | h
    · exact .inl h
    · right; have := hM.size; omega
/-- A literal of one element of one cell; then appended. -/
theorem Ord.pushO {α : Type} {enc : α → Value} {i1 i2 : Nat} {o1 o2 : Oper} {d1 d2 t e by' : Nat} {x y : Operand} {u : α} {lv z : Value} {xs : List α} {w0 : World}
    (e1 : all[i1]? = some o1) (h1 : o1.op = .buildSlice t 1 #[(0, x)]) (hd1 : o1.dst = some d1) (hg1 : o1.guard = none) (e2 : all[i2]? = some o2) (h2 : o2.op = .call { callee := .builtin .append, args := #[y, .tmp d1], argTypes := #[t, t] }) (hd2 : o2.dst = some d2) (hg2 : o2.guard = none)
    (ht : tyD P t = some (.slice e)) (hs : tyS P e = some 1) (hb : tyB P e = some (by' + 1)) (hz : tyZ P e = some z) (hzs : z.cells.size = 1) (hx : ev ρ x = some (enc u)) (hy : ∀ p, ev ((d1, p) :: ρ) y = some lv) (hu : (enc u).oneCell' = true)
    (hO : OI e enc w0 w lv xs) (hbytes : (xs.length + 1) * (by' + 1) ≤ 140737488355328) (hF : ∀ w w' S, F w → Kp S w w' → (∀ i, S i → w0.heap.size ≤ i) → F w') (hw : F w)
    (hk : ∀ lv' p w', F w' → OI e enc w0 w' lv' (xs ++ [u]) → Kp (fun i => lv.ownBlock = some i) w w' → (∀ i, lv'.ownBlock = some i → lv.ownBlock = some i ∨ w.heap.size ≤ i) → Ord P n ds all k Φ s F π ((L.set i1 true).set i2 true) ((d2, lv') :: (d1, p) :: ρ) w') : Ord P n ds all k Φ s F ((i1, 0) :: (i2, 0) :: π) L ρ w := by
  refine Ord.effF e1 (Ops.bs1 h1 hd1 hg1 ht hs hz hzs hx hu (fun w1 r hM => Ops.nil (W.endl ⟨hF _ _ _ hw hM.kp (fun _ e => e.elim), ?_⟩)))
  have hone := own_one hM
  refine Ord.effF e2 (Ops.app (sz := 0) (news := [enc u]) (m := 1) (A := ⟨r, 0, none⟩) (c := 1) h2 hd2 hg2 ht hs hb hz hzs (hy _) (ev_top _ _ _) (own_kp hO.own hM.kp (fun _ _ e => e)) rfl (hone.cells (g := r) rfl) (by simp [hu]) hbytes (fun v' w' ho hk' hn => Ops.nil (W.endl ?_)))
  have hk2 : Kp (fun i => lv.ownBlock = some i) w w' := (hM.kp.trans hk').mono (fun i _ e => by rcases e with e | e; exact e.elim; exact e)
  have hn2 : ∀ i, v'.ownBlock = some i → lv.ownBlock = some i ∨ w.heap.size ≤ i := fun i hi => by
    rcases hn i hi with h | h
    · exact .inl h
    · right; have := hM.size; omega
  have hF' := hF _ _ _ hw hk2 hO.ge
  exact ⟨hF', hk v' _ w' hF' ⟨Below.put hO.bel hk2 (fun i hi => hO.ge i hi), by simpa using ho, fun i hi => by rcases hn2 i hi with e | e; exact hO.ge i e; have := hO.bel.size; omega⟩ hk2 hn2⟩
theorem look_b {ρ : E} {d : Nat} {b c : Bool} (h : VW.look ρ d = some (.bool b)) (hb : b = c) : VW.look ρ d = some (.bool c) := by rw [h, hb]
theorem below_F {w0 : World} : ∀ w w' S, Below w0.heap.size w0 w → Kp S w w' → (∀ i, S i → w0.heap.size ≤ i) → Below w0.heap.size w0 w' := fun _ _ _ h k hs => Below.put h k hs
end
end Go.Proofs.Ytdiljpnfochndaa.VW
/- The rules once more, with standing arguments: the texts of the walks get short. -/
namespace Go.Proofs.Ytdiljpnfochndaa.VW
open Go Go.RowKit
theorem bnf_t (p : Prop) [Decidable p] : (decide p = true) = p := decide_eq_true_eq
theorem bnf : (∀ n : Nat, (n : Int).toNat = n) ∧ (∀ a : Int, (a == a) = true) ∧ (∀ a : Bool, (a == a) = true) ∧ (∀ (p : Prop) [Decidable p], (decide p = true) = p) ∧ (∀ (p : Prop) [Decidable p], (decide p = false) = ¬ p) ∧ (∀ a b : Int, ((a == b) = true) = (a = b)) ∧ (∀ a b : Int, ((a == b) = false) = ¬ (a = b)) ∧ (∀ a b : Int, ((a != b) = true) = ¬ (a = b)) ∧ (∀ a b : Int, ((a != b) = false) = (a = b)) ∧
    ((!true) = false) ∧ ((!false) = true) ∧ (∀ b : Bool, ((!b) = true) = (b = false)) ∧ (∀ b : Bool, ((!b) = false) = (b = true)) ∧ (∀ b : Bool, (b == true) = b) ∧ (∀ b : Bool, (b == false) = !b) ∧ (∀ b : Bool, (!!b) = b) ∧ (∀ a b : Int, (a > b) = (b < a)) ∧ (∀ a b : Int, (a ≥ b) = (b ≤ a)) ∧
    (∀ a b : Bool, ((a && b) = true) = (a = true ∧ b = true)) ∧ (∀ a b : Bool, ((a || b) = true) = (a = true ∨ b = true)) ∧ (∀ a b : Bool, ((a && b) = false) = (a = false ∨ b = false)) ∧ (∀ a b : Bool, ((a || b) = false) = (a = false ∧ b = false)) ∧ (∀ (p : Prop) [Decidable p], (!decide p) = decide (¬ p)) ∧ (∀ a b : Int, (a ≠ b) = ¬ (a = b)) := by
  refine ⟨fun _ => rfl, by simp, by simp, by simp, by simp, by simp, by simp, by simp, by simp, rfl, rfl, by simp, by simp, by simp, by simp, by simp, by simp, by simp, by simp, by simp, by simp, by simp, by simp, by simp⟩
section
variable {P : Program} [hT : Tab P] {n : Nat} {ds : List Deferred} {Φ : Post} {k : List It} {ρ : E} {w : World} {all : Array Oper} {l : List Oper} {md : Option (List Oper)} {s : Nat} {F : World → Prop} {π : List (Nat × Nat)} {L : List Bool}
theorem z_p {o : Oper} {v : Value} {d : Nat} (hd : o.dst = some d := by exact rfl) (hg : o.guard = none := by exact rfl) (h : pureV ρ o.op = some v := by exact rfl) (kk : Ops md P n ds all k Φ l ((d, v) :: ρ) w) : Ops md P n ds all k Φ (o :: l) ρ w := Ops.pu hd hg h kk
theorem z_a {o : Oper} {x : Int} {d : Nat} (hd : o.dst = some d := by exact rfl) (hg : o.guard = none := by exact rfl) (h : arV ρ o.op = some x := by exact rfl) (hb : -9223372036854775808 ≤ x ∧ x ≤ 9223372036854775807 := by omega) (kk : Ops md P n ds all k Φ l ((d, .int .i64 x) :: ρ) w) : Ops md P n ds all k Φ (o :: l) ρ w := Ops.ar hd hg h hb kk
theorem z_y {o : Oper} {j : Nat} {want : Bool} {d : Nat} (hg : o.guard = some (j, want) := by exact rfl) (hj : (all[j]?).bind (·.dst) = some d := by exact rfl) (hv : look ρ d = some (.bool want) := by exact rfl) (kk : Ops md P n ds all k Φ ({ o with guard := none } :: l) ρ w) : Ops md P n ds all k Φ (o :: l) ρ w := Ops.yes hg hj hv kk
theorem z_n {o : Oper} {j : Nat} {want b : Bool} {d d' : Nat} (hdst : o.dst = some d' := by exact rfl) (hg : o.guard = some (j, want) := by exact rfl) (hj : (all[j]?).bind (·.dst) = some d := by exact rfl) (hv : look ρ d = some (.bool b) := by exact rfl) (hne : b = !want := by exact rfl) (kk : Ops md P n ds all k Φ l ((d', undef) :: ρ) w) : Ops md P n ds all k Φ (o :: l) ρ w := Ops.no hdst hg hj hv hne kk
theorem z_u {o : Oper} {j : Nat} {want : Bool} {d d' : Nat} (hdst : o.dst = some d' := by exact rfl) (hg : o.guard = some (j, want) := by exact rfl) (hj : (all[j]?).bind (·.dst) = some d := by exact rfl) (hv : look ρ d = some undef := by exact rfl) (kk : Ops md P n ds all k Φ l ((d', undef) :: ρ) w) : Ops md P n ds all k Φ (o :: l) ρ w := Ops.nu hdst hg hj hv kk
theorem z_l {o : Oper} {d t e m c : Nat} {x : Operand} {A : Option Addr} (ho : o.op = .call { callee := .builtin .len, args := #[x], argTypes := #[t] } := by exact rfl) (hd : o.dst = some d := by exact rfl) (hg : o.guard = none := by exact rfl) (ht : tyD P t = some (.slice e) := by exact rfl) (hx : ev ρ x = some (.slice A m c) := by exact rfl) (kk : Ops md P n ds all k Φ l ((d, .int .i64 m) :: ρ) w) : Ops md P n ds all k Φ (o :: l) ρ w := Ops.len ho hd hg ht hx kk
theorem z_f {o : Oper} {d t i off sz b q : Nat} {x : Operand} (ho : o.op = .fieldAddr t x i := by exact rfl) (hd : o.dst = some d := by exact rfl) (hg : o.guard = none := by exact rfl) (ht : fieldOff P t i = some (off, sz + 1) := by exact rfl) (hx : ev ρ x = some (.pointer (some ⟨b, q, none⟩)) := by exact rfl) (kk : Ops md P n ds all k Φ l ((d, .pointer (some ⟨b, q + off, none⟩)) :: ρ) w) : Ops md P n ds all k Φ (o :: l) ρ w := Ops.flp ho hd hg ht hx kk
theorem z_M {o : Oper} {d : Nat} {x y : Operand} {ts : Array TypeId} {a b : Int} (ho : o.op = .call { callee := .builtin .max, args := #[x, y], argTypes := ts } := by exact rfl) (hd : o.dst = some d := by exact rfl) (hg : o.guard = none := by exact rfl) (hx : ev ρ x = some (.int .i64 a) := by exact rfl) (hy : ev ρ y = some (.int .i64 b) := by exact rfl) (kk : Ops md P n ds all k Φ l ((d, .int .i64 (Max.max a b)) :: ρ) w) : Ops md P n ds all k Φ (o :: l) ρ w := Ops.max ho hd hg hx hy kk
theorem z_m {o : Oper} {d : Nat} {x y : Operand} {ts : Array TypeId} {a b : Int} (ho : o.op = .call { callee := .builtin .min, args := #[x, y], argTypes := ts } := by exact rfl) (hd : o.dst = some d := by exact rfl) (hg : o.guard = none := by exact rfl) (hx : ev ρ x = some (.int .i64 a) := by exact rfl) (hy : ev ρ y = some (.int .i64 b) := by exact rfl) (kk : Ops md P n ds all k Φ l ((d, .int .i64 (Min.min a b)) :: ρ) w) : Ops md P n ds all k Φ (o :: l) ρ w := Ops.min ho hd hg hx hy kk
theorem z_e {o : Oper} {d t t' : Nat} {x y : Operand} {a b : Bool} (ho : o.op = .binOp .eql t x y t' := by exact rfl) (hd : o.dst = some d := by exact rfl) (hg : o.guard = none := by exact rfl) (ht : tyD P t = some .bool := by exact rfl) (hx : ev ρ x = some (.bool a) := by exact rfl) (hy : ev ρ y = some (.bool b) := by exact rfl) (kk : Ops md P n ds all k Φ l ((d, .bool (a == b)) :: ρ) w) : Ops md P n ds all k Φ (o :: l) ρ w := Ops.eqB ho hd hg ht hx hy kk
theorem z_E {o : Oper} {d t t' : Nat} {x y : Operand} {a b : Bool} (ho : o.op = .binOp .neq t x y t' := by exact rfl) (hd : o.dst = some d := by exact rfl) (hg : o.guard = none := by exact rfl) (ht : tyD P t = some .bool := by exact rfl) (hx : ev ρ x = some (.bool a) := by exact rfl) (hy : ev ρ y = some (.bool b) := by exact rfl) (kk : Ops md P n ds all k Φ l ((d, .bool (!(a == b))) :: ρ) w) : Ops md P n ds all k Φ (o :: l) ρ w := Ops.neB ho hd hg ht hx hy kk
theorem z_d {o : Oper} {d t b q t' : Nat} {x : Operand} {cs : Array Value} {v : Value} (ho : o.op = .load t x := by exact rfl) (hd : o.dst = some d := by exact rfl) (hg : o.guard = none := by exact rfl) (ht : tyAgg P t = some false := by exact rfl) (hx : ev ρ x = some (.pointer (some ⟨b, q, none⟩)) := by exact rfl) (hb : Blk w b cs t' := by assumption) (hi : nth cs.toList q = some v := by exact rfl) (kk : Ops md P n ds all k Φ l ((d, v) :: ρ) w) : Ops md P n ds all k Φ (o :: l) ρ w := Ops.ldB ho hd hg ht hx hb hi kk
theorem z_g {o : Oper} {j : Nat} {want b : Bool} {d d' : Nat} (hdst : o.dst = some d' := by exact rfl) (hg : o.guard = some (j, want) := by exact rfl) (hj : (all[j]?).bind (·.dst) = some d := by exact rfl) (hv : VW.look ρ d = some (.bool b) := by exact rfl) (hb : b = !want := by first | assumption | (simp only [bnf]; omega) | (simp only [*, bnf]; done) | fail) (kk : Ops md P n ds all k Φ l ((d', undef) :: (d, .bool (!want)) :: ρ) w) : Ops md P n ds all k Φ (o :: l) ρ w := Ops.noB hdst hg hj hv hb kk
theorem z_h {o : Oper} {j : Nat} {want b : Bool} {d d' : Nat} (hdst : o.dst = some d' := by exact rfl) (hg : o.guard = some (j, want) := by exact rfl) (hj : (all[j]?).bind (·.dst) = some d := by exact rfl) (hv : VW.look ρ d = some (.bool b) := by exact rfl) (hb : b = want := by first | assumption | (simp only [bnf]; omega) | (simp only [*, bnf]; done) | fail) (kk : Ops md P n ds all k Φ ({ o with guard := none } :: l) ((d, .bool want) :: ρ) w) : Ops md P n ds all k Φ (o :: l) ρ w := Ops.yesB hdst hg hj hv hb kk
theorem z_I {o1 o2 : Oper} {d1 d2 t t' e : Nat} {x y : Operand} {v : Value} {i : Nat} {xs : List Int} {w0 : World} {c1 c2 : Bool} (ho : o1.op = .indexAddr t x y := by exact rfl) (hd1 : o1.dst = some d1 := by exact rfl) (hg1 : gdB all ρ o1.guard = some c1 := by exact rfl) (hc1 : c1 = true := by exact rfl) (ho2 : o2.op = .load t' (.tmp d1) := by exact rfl) (hd2 : o2.dst = some d2 := by exact rfl) (hg2 : ∀ p, gdB all ((d1, .pointer p) :: ρ) o2.guard = some c2 := by exact fun _ => rfl) (hc2 : c2 = true := by exact rfl) (ht : tyD P t = some (.slice e) := by exact rfl) (hs : tyS P e = some 1 := by exact rfl) (ha : tyAgg P t' = some false := by exact rfl) (hx : ev ρ x = some v := by exact rfl) (hy : ev ρ y = some (.int .i64 (i : Int)) := by exact rfl) (hsl : SlI w0 v xs := by first | assumption | exact OI.sl (by assumption)) (hb : Below w0.heap.size w0 w := by first | assumption | exact Below.refl _ _) (h1 : i < xs.length := by omega) (kk : ∀ p, Ops md P n ds all k Φ l ((d2, Value.int .i64 (xs.getD i 0)) :: (d1, p) :: ρ) w) : Ops md P n ds all k Φ (o1 :: o2 :: l) ρ w := Ops.rdBn ho hd1 hg1 hc1 ho2 hd2 hg2 hc2 ht hs ha hx hy hsl hb h1 kk
theorem z_J {o1 o2 : Oper} {d1 d2 t t' e : Nat} {x y : Operand} {v : Value} {i : Nat} {xs : List Bool} {w0 : World} {c1 c2 : Bool} (ho : o1.op = .indexAddr t x y := by exact rfl) (hd1 : o1.dst = some d1 := by exact rfl) (hg1 : gdB all ρ o1.guard = some c1 := by exact rfl) (hc1 : c1 = true := by exact rfl) (ho2 : o2.op = .load t' (.tmp d1) := by exact rfl) (hd2 : o2.dst = some d2 := by exact rfl) (hg2 : ∀ p, gdB all ((d1, .pointer p) :: ρ) o2.guard = some c2 := by exact fun _ => rfl) (hc2 : c2 = true := by exact rfl) (ht : tyD P t = some (.slice e) := by exact rfl) (hs : tyS P e = some 1 := by exact rfl) (ha : tyAgg P t' = some false := by exact rfl) (hx : ev ρ x = some v := by exact rfl) (hy : ev ρ y = some (.int .i64 (i : Int)) := by exact rfl) (hsl : SlB w0 v xs := by first | assumption | exact OI.sl (by assumption)) (hb : Below w0.heap.size w0 w := by first | assumption | exact Below.refl _ _) (h1 : i < xs.length := by omega) (kk : ∀ p, Ops md P n ds all k Φ l ((d2, Value.bool (xs.getD i false)) :: (d1, p) :: ρ) w) : Ops md P n ds all k Φ (o1 :: o2 :: l) ρ w := Ops.rdBn ho hd1 hg1 hc1 ho2 hd2 hg2 hc2 ht hs ha hx hy hsl hb h1 kk
theorem z_K {o1 o2 : Oper} {d1 d2 t t' e : Nat} {x y : Operand} {v : Value} {i : Int} {xs : List Int} {w0 : World} {c1 c2 : Bool} (ho : o1.op = .indexAddr t x y := by exact rfl) (hd1 : o1.dst = some d1 := by exact rfl) (hg1 : gdB all ρ o1.guard = some c1 := by exact rfl) (hc1 : c1 = true := by exact rfl) (ho2 : o2.op = .load t' (.tmp d1) := by exact rfl) (hd2 : o2.dst = some d2 := by exact rfl) (hg2 : ∀ p, gdB all ((d1, .pointer p) :: ρ) o2.guard = some c2 := by exact fun _ => rfl) (hc2 : c2 = true := by exact rfl) (ht : tyD P t = some (.slice e) := by exact rfl) (hs : tyS P e = some 1 := by exact rfl) (ha : tyAgg P t' = some false := by exact rfl) (hx : ev ρ x = some v := by exact rfl) (hy : ev ρ y = some (.int .i64 i) := by exact rfl) (hsl : SlI w0 v xs := by first | assumption | exact OI.sl (by assumption)) (hb : Below w0.heap.size w0 w := by first | assumption | exact Below.refl _ _) (h0 : 0 ≤ i := by omega) (h1 : i < xs.length := by omega) (kk : ∀ p, Ops md P n ds all k Φ l ((d2, Value.int .i64 (xs.getD i.toNat 0)) :: (d1, p) :: ρ) w) : Ops md P n ds all k Φ (o1 :: o2 :: l) ρ w := Ops.rdB ho hd1 hg1 hc1 ho2 hd2 hg2 hc2 ht hs ha hx hy hsl hb h0 h1 kk
theorem z_L {o1 o2 : Oper} {d1 d2 t t' e : Nat} {x y : Operand} {v : Value} {i : Int} {xs : List Bool} {w0 : World} {c1 c2 : Bool} (ho : o1.op = .indexAddr t x y := by exact rfl) (hd1 : o1.dst = some d1 := by exact rfl) (hg1 : gdB all ρ o1.guard = some c1 := by exact rfl) (hc1 : c1 = true := by exact rfl) (ho2 : o2.op = .load t' (.tmp d1) := by exact rfl) (hd2 : o2.dst = some d2 := by exact rfl) (hg2 : ∀ p, gdB all ((d1, .pointer p) :: ρ) o2.guard = some c2 := by exact fun _ => rfl) (hc2 : c2 = true := by exact rfl) (ht : tyD P t = some (.slice e) := by exact rfl) (hs : tyS P e = some 1 := by exact rfl) (ha : tyAgg P t' = some false := by exact rfl) (hx : ev ρ x = some v := by exact rfl) (hy : ev ρ y = some (.int .i64 i) := by exact rfl) (hsl : SlB w0 v xs := by first | assumption | exact OI.sl (by assumption)) (hb : Below w0.heap.size w0 w := by first | assumption | exact Below.refl _ _) (h0 : 0 ≤ i := by omega) (h1 : i < xs.length := by omega) (kk : ∀ p, Ops md P n ds all k Φ l ((d2, Value.bool (xs.getD i.toNat false)) :: (d1, p) :: ρ) w) : Ops md P n ds all k Φ (o1 :: o2 :: l) ρ w := Ops.rdB ho hd1 hg1 hc1 ho2 hd2 hg2 hc2 ht hs ha hx hy hsl hb h0 h1 kk
theorem z_T {o : Oper} {d : Nat} {v : Value} {c x y : Operand} {b c1 : Bool} (hd : o.dst = some d := by exact rfl) (hg : gdB all ρ o.guard = some c1 := by exact rfl) (hc1 : c1 = true := by exact rfl) (ho : o.op = .pick c x y := by exact rfl) (hc : ev ρ c = some (.bool b) := by exact rfl) (hb : b = true := by first | rfl | assumption | (simp only [bnf] <;> omega) | fail) (hx : ev ρ x = some v := by exact rfl) (kk : Ops md P n ds all k Φ l ((d, v) :: ρ) w) : Ops md P n ds all k Φ (o :: l) ρ w := Ops.evG hd hg hc1 (EV.pickT ho hc hb hx) kk
theorem z_F {o : Oper} {d : Nat} {v : Value} {c x y : Operand} {b c1 : Bool} (hd : o.dst = some d := by exact rfl) (hg : gdB all ρ o.guard = some c1 := by exact rfl) (hc1 : c1 = true := by exact rfl) (ho : o.op = .pick c x y := by exact rfl) (hc : ev ρ c = some (.bool b) := by exact rfl) (hb : b = false := by first | rfl | assumption | (simp only [bnf] <;> omega) | fail) (hx : ev ρ y = some v := by exact rfl) (kk : Ops md P n ds all k Φ l ((d, v) :: ρ) w) : Ops md P n ds all k Φ (o :: l) ρ w := Ops.evG hd hg hc1 (EV.pickF ho hc hb hx) kk
theorem x_p {i d : Nat} {o : Oper} {c : Bool} {v : Value} (ho : all[i]? = some o := by exact rfl) (hd : o.dst = some d := by exact rfl) (hg : gdB all ρ o.guard = some c := by exact rfl) (hgc : c = true := by exact rfl) (hv : pureV ρ o.op = some v := by exact rfl) (kk : OrdA P n ds all k Φ s F π (L.set i true) ((d, v) :: ρ)) : OrdA P n ds all k Φ s F ((i, 1) :: π) L ρ := OrdA.pure ho hd hg hgc (fun _ => EV.pu hv) kk
theorem x_a {i d : Nat} {o : Oper} {c : Bool} {x : Int} (ho : all[i]? = some o := by exact rfl) (hd : o.dst = some d := by exact rfl) (hg : gdB all ρ o.guard = some c := by exact rfl) (hgc : c = true := by exact rfl) (hv : arV ρ o.op = some x := by exact rfl) (hb : -9223372036854775808 ≤ x ∧ x ≤ 9223372036854775807 := by omega) (kk : OrdA P n ds all k Φ s F π (L.set i true) ((d, (.int .i64 x)) :: ρ)) : OrdA P n ds all k Φ s F ((i, 1) :: π) L ρ := OrdA.pure ho hd hg hgc (fun _ => EV.ar hv hb) kk
theorem x_l {i d : Nat} {o : Oper} {c : Bool} {t e m c2 : Nat} {x : Operand} {A : Option Addr} (ho : all[i]? = some o := by exact rfl) (hd : o.dst = some d := by exact rfl) (hg : gdB all ρ o.guard = some c := by exact rfl) (hgc : c = true := by exact rfl) (h1 : o.op = .call { callee := .builtin .len, args := #[x], argTypes := #[t] } := by exact rfl) (h2 : tyD P t = some (.slice e) := by exact rfl) (h3 : ev ρ x = some (.slice A m c2) := by exact rfl) (kk : OrdA P n ds all k Φ s F π (L.set i true) ((d, (.int .i64 m)) :: ρ)) : OrdA P n ds all k Φ s F ((i, 1) :: π) L ρ := OrdA.pure ho hd hg hgc (fun _ => EV.len h1 h2 h3) kk
theorem x_M {i d : Nat} {o : Oper} {c : Bool} {x y : Operand} {ts : Array TypeId} {a b : Int} (ho : all[i]? = some o := by exact rfl) (hd : o.dst = some d := by exact rfl) (hg : gdB all ρ o.guard = some c := by exact rfl) (hgc : c = true := by exact rfl) (h1 : o.op = .call { callee := .builtin .max, args := #[x, y], argTypes := ts } := by exact rfl) (h2 : ev ρ x = some (.int .i64 a) := by exact rfl) (h3 : ev ρ y = some (.int .i64 b) := by exact rfl) (kk : OrdA P n ds all k Φ s F π (L.set i true) ((d, (.int .i64 (Max.max a b))) :: ρ)) : OrdA P n ds all k Φ s F ((i, 1) :: π) L ρ := OrdA.pure ho hd hg hgc (fun _ => EV.max h1 h2 h3) kk
theorem x_m {i d : Nat} {o : Oper} {c : Bool} {x y : Operand} {ts : Array TypeId} {a b : Int} (ho : all[i]? = some o := by exact rfl) (hd : o.dst = some d := by exact rfl) (hg : gdB all ρ o.guard = some c := by exact rfl) (hgc : c = true := by exact rfl) (h1 : o.op = .call { callee := .builtin .min, args := #[x, y], argTypes := ts } := by exact rfl) (h2 : ev ρ x = some (.int .i64 a) := by exact rfl) (h3 : ev ρ y = some (.int .i64 b) := by exact rfl) (kk : OrdA P n ds all k Φ s F π (L.set i true) ((d, (.int .i64 (Min.min a b))) :: ρ)) : OrdA P n ds all k Φ s F ((i, 1) :: π) L ρ := OrdA.pure ho hd hg hgc (fun _ => EV.min h1 h2 h3) kk
theorem x_e {i d : Nat} {o : Oper} {c : Bool} {t t' : Nat} {x y : Operand} {a b : Bool} (ho : all[i]? = some o := by exact rfl) (hd : o.dst = some d := by exact rfl) (hg : gdB all ρ o.guard = some c := by exact rfl) (hgc : c = true := by exact rfl) (h1 : o.op = .binOp .eql t x y t' := by exact rfl) (h2 : tyD P t = some .bool := by exact rfl) (h3 : ev ρ x = some (.bool a) := by exact rfl) (h4 : ev ρ y = some (.bool b) := by exact rfl) (kk : OrdA P n ds all k Φ s F π (L.set i true) ((d, (.bool (a == b))) :: ρ)) : OrdA P n ds all k Φ s F ((i, 1) :: π) L ρ := OrdA.pure ho hd hg hgc (fun _ => EV.eqB h1 h2 h3 h4) kk
theorem x_E {i d : Nat} {o : Oper} {c : Bool} {t t' : Nat} {x y : Operand} {a b : Bool} (ho : all[i]? = some o := by exact rfl) (hd : o.dst = some d := by exact rfl) (hg : gdB all ρ o.guard = some c := by exact rfl) (hgc : c = true := by exact rfl) (h1 : o.op = .binOp .neq t x y t' := by exact rfl) (h2 : tyD P t = some .bool := by exact rfl) (h3 : ev ρ x = some (.bool a) := by exact rfl) (h4 : ev ρ y = some (.bool b) := by exact rfl) (kk : OrdA P n ds all k Φ s F π (L.set i true) ((d, (.bool (!(a == b)))) :: ρ)) : OrdA P n ds all k Φ s F ((i, 1) :: π) L ρ := OrdA.pure ho hd hg hgc (fun _ => EV.neB h1 h2 h3 h4) kk
theorem x_T {i d : Nat} {o : Oper} {c : Bool} {c2 x y : Operand} {b : Bool} {v : Value} (ho : all[i]? = some o := by exact rfl) (hd : o.dst = some d := by exact rfl) (hg : gdB all ρ o.guard = some c := by exact rfl) (hgc : c = true := by exact rfl) (h1 : o.op = .pick c2 x y := by exact rfl) (h2 : ev ρ c2 = some (.bool b) := by exact rfl) (h3 : b = true := by first | rfl | assumption | (simp only [bnf] <;> omega) | fail) (h4 : ev ρ x = some v := by exact rfl) (kk : OrdA P n ds all k Φ s F π (L.set i true) ((d, v) :: ρ)) : OrdA P n ds all k Φ s F ((i, 1) :: π) L ρ := OrdA.pure ho hd hg hgc (fun _ => EV.pickT h1 h2 h3 h4) kk
theorem x_F {i d : Nat} {o : Oper} {c : Bool} {c2 x y : Operand} {b : Bool} {v : Value} (ho : all[i]? = some o := by exact rfl) (hd : o.dst = some d := by exact rfl) (hg : gdB all ρ o.guard = some c := by exact rfl) (hgc : c = true := by exact rfl) (h1 : o.op = .pick c2 x y := by exact rfl) (h2 : ev ρ c2 = some (.bool b) := by exact rfl) (h3 : b = false := by first | rfl | assumption | (simp only [bnf] <;> omega) | fail) (h4 : ev ρ y = some v := by exact rfl) (kk : OrdA P n ds all k Φ s F π (L.set i true) ((d, v) :: ρ)) : OrdA P n ds all k Φ s F ((i, 1) :: π) L ρ := OrdA.pure ho hd hg hgc (fun _ => EV.pickF h1 h2 h3 h4) kk
theorem x_n {i d m : Nat} {o : Oper} {c : Bool} (ho : all[i]? = some o := by exact rfl) (hd : o.dst = some d := by exact rfl) (hg : gdB all ρ o.guard = some c := by exact rfl) (hgc : c = false := by exact rfl) (hm : m < 2 := by decide) (kk : OrdA P n ds all k Φ s F π (L.set i true) ((d, undef) :: ρ)) : OrdA P n ds all k Φ s F ((i, m + 1) :: π) L ρ := OrdA.no ho hd hg hgc hm kk
theorem x_t {i m j g : Nat} {want b : Bool} {o : Oper} (ho : all[i]? = some o := by exact rfl) (hg : o.guard = some (j, want) := by exact rfl) (hj : (all[j]?).bind (·.dst) = some g := by exact rfl) (hv : VW.look ρ g = some (.bool b) := by exact rfl) (hb : b = true := by first | assumption | (simp only [bnf]; omega) | (simp only [*, bnf]; done) | fail) (kk : OrdA P n ds all k Φ s F ((i, m) :: π) L ((g, .bool true) :: ρ)) : OrdA P n ds all k Φ s F ((i, m) :: π) L ρ := OrdA.lit ho hg hj hv hb kk
theorem x_f {i m j g : Nat} {want b : Bool} {o : Oper} (ho : all[i]? = some o := by exact rfl) (hg : o.guard = some (j, want) := by exact rfl) (hj : (all[j]?).bind (·.dst) = some g := by exact rfl) (hv : VW.look ρ g = some (.bool b) := by exact rfl) (hb : b = false := by first | assumption | (simp only [bnf]; omega) | (simp only [*, bnf]; done) | fail) (kk : OrdA P n ds all k Φ s F ((i, m) :: π) L ((g, .bool false) :: ρ)) : OrdA P n ds all k Φ s F ((i, m) :: π) L ρ := OrdA.lit ho hg hj hv hb kk
theorem x_I {i1 i2 d1 d2 t t' e : Nat} {o1 o2 : Oper} {x y : Operand} {v : Value} {i : Nat} {xs : List Int} {w0 : World} {c1 c2 : Bool} (h1 : all[i1]? = some o1 := by exact rfl) (ho : o1.op = .indexAddr t x y := by exact rfl) (hd1 : o1.dst = some d1 := by exact rfl) (hg1 : gdB all ρ o1.guard = some c1 := by exact rfl) (hc1 : c1 = true := by exact rfl) (h2 : all[i2]? = some o2 := by exact rfl) (ho2 : o2.op = .load t' (.tmp d1) := by exact rfl) (hd2 : o2.dst = some d2 := by exact rfl) (hg2 : ∀ p, gdB all ((d1, .pointer p) :: ρ) o2.guard = some c2 := by exact fun _ => rfl) (hc2 : c2 = true := by exact rfl) (ht : tyD P t = some (.slice e) := by exact rfl) (hs : tyS P e = some 1 := by exact rfl) (ha : tyAgg P t' = some false := by exact rfl) (hx : ev ρ x = some v := by exact rfl) (hy : ev ρ y = some (.int .i64 (i : Int)) := by exact rfl) (hsl : SlI w0 v xs := by first | assumption | exact OI.sl (by assumption)) (hF : ∀ w, F w → Below w0.heap.size w0 w := by first | exact fun _ h => h | (intro _ h; exact Below.via (by assumption) h)) (hi : i < xs.length := by omega) (kk : ∀ p, OrdA P n ds all k Φ s F π ((L.set i1 true).set i2 true) ((d2, Value.int .i64 (xs.getD i 0)) :: (d1, p) :: ρ)) : OrdA P n ds all k Φ s F ((i1, 1) :: (i2, 2) :: π) L ρ := OrdA.rdSn h1 ho hd1 hg1 hc1 h2 ho2 hd2 hg2 hc2 ht hs ha hx hy hsl hF hi kk
theorem x_J {i1 i2 d1 d2 t t' e : Nat} {o1 o2 : Oper} {x y : Operand} {v : Value} {i : Nat} {xs : List Bool} {w0 : World} {c1 c2 : Bool} (h1 : all[i1]? = some o1 := by exact rfl) (ho : o1.op = .indexAddr t x y := by exact rfl) (hd1 : o1.dst = some d1 := by exact rfl) (hg1 : gdB all ρ o1.guard = some c1 := by exact rfl) (hc1 : c1 = true := by exact rfl) (h2 : all[i2]? = some o2 := by exact rfl) (ho2 : o2.op = .load t' (.tmp d1) := by exact rfl) (hd2 : o2.dst = some d2 := by exact rfl) (hg2 : ∀ p, gdB all ((d1, .pointer p) :: ρ) o2.guard = some c2 := by exact fun _ => rfl) (hc2 : c2 = true := by exact rfl) (ht : tyD P t = some (.slice e) := by exact rfl) (hs : tyS P e = some 1 := by exact rfl) (ha : tyAgg P t' = some false := by exact rfl) (hx : ev ρ x = some v := by exact rfl) (hy : ev ρ y = some (.int .i64 (i : Int)) := by exact rfl) (hsl : SlB w0 v xs := by first | assumption | exact OI.sl (by assumption)) (hF : ∀ w, F w → Below w0.heap.size w0 w := by first | exact fun _ h => h | (intro _ h; exact Below.via (by assumption) h)) (hi : i < xs.length := by omega) (kk : ∀ p, OrdA P n ds all k Φ s F π ((L.set i1 true).set i2 true) ((d2, Value.bool (xs.getD i false)) :: (d1, p) :: ρ)) : OrdA P n ds all k Φ s F ((i1, 1) :: (i2, 2) :: π) L ρ := OrdA.rdSn h1 ho hd1 hg1 hc1 h2 ho2 hd2 hg2 hc2 ht hs ha hx hy hsl hF hi kk
theorem x_K {i1 i2 d1 d2 t t' e : Nat} {o1 o2 : Oper} {x y : Operand} {v : Value} {i : Int} {xs : List Int} {w0 : World} {c1 c2 : Bool} (h1 : all[i1]? = some o1 := by exact rfl) (ho : o1.op = .indexAddr t x y := by exact rfl) (hd1 : o1.dst = some d1 := by exact rfl) (hg1 : gdB all ρ o1.guard = some c1 := by exact rfl) (hc1 : c1 = true := by exact rfl) (h2 : all[i2]? = some o2 := by exact rfl) (ho2 : o2.op = .load t' (.tmp d1) := by exact rfl) (hd2 : o2.dst = some d2 := by exact rfl) (hg2 : ∀ p, gdB all ((d1, .pointer p) :: ρ) o2.guard = some c2 := by exact fun _ => rfl) (hc2 : c2 = true := by exact rfl) (ht : tyD P t = some (.slice e) := by exact rfl) (hs : tyS P e = some 1 := by exact rfl) (ha : tyAgg P t' = some false := by exact rfl) (hx : ev ρ x = some v := by exact rfl) (hy : ev ρ y = some (.int .i64 i) := by exact rfl) (hsl : SlI w0 v xs := by first | assumption | exact OI.sl (by assumption)) (hF : ∀ w, F w → Below w0.heap.size w0 w := by first | exact fun _ h => h | (intro _ h; exact Below.via (by assumption) h)) (h0 : 0 ≤ i := by omega) (hi : i < xs.length := by omega) (kk : ∀ p, OrdA P n ds all k Φ s F π ((L.set i1 true).set i2 true) ((d2, Value.int .i64 (xs.getD i.toNat 0)) :: (d1, p) :: ρ)) : OrdA P n ds all k Φ s F ((i1, 1) :: (i2, 2) :: π) L ρ := OrdA.rdS h1 ho hd1 hg1 hc1 h2 ho2 hd2 hg2 hc2 ht hs ha hx hy hsl hF h0 hi kk
theorem x_L {i1 i2 d1 d2 t t' e : Nat} {o1 o2 : Oper} {x y : Operand} {v : Value} {i : Int} {xs : List Bool} {w0 : World} {c1 c2 : Bool} (h1 : all[i1]? = some o1 := by exact rfl) (ho : o1.op = .indexAddr t x y := by exact rfl) (hd1 : o1.dst = some d1 := by exact rfl) (hg1 : gdB all ρ o1.guard = some c1 := by exact rfl) (hc1 : c1 = true := by exact rfl) (h2 : all[i2]? = some o2 := by exact rfl) (ho2 : o2.op = .load t' (.tmp d1) := by exact rfl) (hd2 : o2.dst = some d2 := by exact rfl) (hg2 : ∀ p, gdB all ((d1, .pointer p) :: ρ) o2.guard = some c2 := by exact fun _ => rfl) (hc2 : c2 = true := by exact rfl) (ht : tyD P t = some (.slice e) := by exact rfl) (hs : tyS P e = some 1 := by exact rfl) (ha : tyAgg P t' = some false := by exact rfl) (hx : ev ρ x = some v := by exact rfl) (hy : ev ρ y = some (.int .i64 i) := by exact rfl) (hsl : SlB w0 v xs := by first | assumption | exact OI.sl (by assumption)) (hF : ∀ w, F w → Below w0.heap.size w0 w := by first | exact fun _ h => h | (intro _ h; exact Below.via (by assumption) h)) (h0 : 0 ≤ i := by omega) (hi : i < xs.length := by omega) (kk : ∀ p, OrdA P n ds all k Φ s F π ((L.set i1 true).set i2 true) ((d2, Value.bool (xs.getD i.toNat false)) :: (d1, p) :: ρ)) : OrdA P n ds all k Φ s F ((i1, 1) :: (i2, 2) :: π) L ρ := OrdA.rdS h1 ho hd1 hg1 hc1 h2 ho2 hd2 hg2 hc2 ht hs ha hx hy hsl hF h0 hi kk
theorem y_p {i d : Nat} {o : Oper} {c : Bool} {v : Value} (ho : all[i]? = some o := by exact rfl) (hd : o.dst = some d := by exact rfl) (hg : gdB all ρ o.guard = some c := by exact rfl) (hgc : c = true := by exact rfl) (hΦ : ∀ c ρ w, ¬ Φ (.panic c) ρ w := by exact fun _ _ _ h => h) (hv : pureV ρ o.op = some v := by exact rfl) (kk : Ord P n ds all k Φ s F π (L.set i true) ((d, v) :: ρ) w) : Ord P n ds all k Φ s F ((i, 1) :: π) L ρ w := Ord.pure ho hd hg hgc hΦ (fun _ => EV.pu hv) kk
theorem y_a {i d : Nat} {o : Oper} {c : Bool} {x : Int} (ho : all[i]? = some o := by exact rfl) (hd : o.dst = some d := by exact rfl) (hg : gdB all ρ o.guard = some c := by exact rfl) (hgc : c = true := by exact rfl) (hΦ : ∀ c ρ w, ¬ Φ (.panic c) ρ w := by exact fun _ _ _ h => h) (hv : arV ρ o.op = some x := by exact rfl) (hb : -9223372036854775808 ≤ x ∧ x ≤ 9223372036854775807 := by omega) (kk : Ord P n ds all k Φ s F π (L.set i true) ((d, (.int .i64 x)) :: ρ) w) : Ord P n ds all k Φ s F ((i, 1) :: π) L ρ w := Ord.pure ho hd hg hgc hΦ (fun _ => EV.ar hv hb) kk
theorem y_l {i d : Nat} {o : Oper} {c : Bool} {t e m c2 : Nat} {x : Operand} {A : Option Addr} (ho : all[i]? = some o := by exact rfl) (hd : o.dst = some d := by exact rfl) (hg : gdB all ρ o.guard = some c := by exact rfl) (hgc : c = true := by exact rfl) (hΦ : ∀ c ρ w, ¬ Φ (.panic c) ρ w := by exact fun _ _ _ h => h) (h1 : o.op = .call { callee := .builtin .len, args := #[x], argTypes := #[t] } := by exact rfl) (h2 : tyD P t = some (.slice e) := by exact rfl) (h3 : ev ρ x = some (.slice A m c2) := by exact rfl) (kk : Ord P n ds all k Φ s F π (L.set i true) ((d, (.int .i64 m)) :: ρ) w) : Ord P n ds all k Φ s F ((i, 1) :: π) L ρ w := Ord.pure ho hd hg hgc hΦ (fun _ => EV.len h1 h2 h3) kk
theorem y_M {i d : Nat} {o : Oper} {c : Bool} {x y : Operand} {ts : Array TypeId} {a b : Int} (ho : all[i]? = some o := by exact rfl) (hd : o.dst = some d := by exact rfl) (hg : gdB all ρ o.guard = some c := by exact rfl) (hgc : c = true := by exact rfl) (hΦ : ∀ c ρ w, ¬ Φ (.panic c) ρ w := by exact fun _ _ _ h => h) (h1 : o.op = .call { callee := .builtin .max, args := #[x, y], argTypes := ts } := by exact rfl) (h2 : ev ρ x = some (.int .i64 a) := by exact rfl) (h3 : ev ρ y = some (.int .i64 b) := by exact rfl) (kk : Ord P n ds all k Φ s F π (L.set i true) ((d, (.int .i64 (Max.max a b))) :: ρ) w) : Ord P n ds all k Φ s F ((i, 1) :: π) L ρ w := Ord.pure ho hd hg hgc hΦ (fun _ => EV.max h1 h2 h3) kk
theorem y_m {i d : Nat} {o : Oper} {c : Bool} {x y : Operand} {ts : Array TypeId} {a b : Int} (ho : all[i]? = some o := by exact rfl) (hd : o.dst = some d := by exact rfl) (hg : gdB all ρ o.guard = some c := by exact rfl) (hgc : c = true := by exact rfl) (hΦ : ∀ c ρ w, ¬ Φ (.panic c) ρ w := by exact fun _ _ _ h => h) (h1 : o.op = .call { callee := .builtin .min, args := #[x, y], argTypes := ts } := by exact rfl) (h2 : ev ρ x = some (.int .i64 a) := by exact rfl) (h3 : ev ρ y = some (.int .i64 b) := by exact rfl) (kk : Ord P n ds all k Φ s F π (L.set i true) ((d, (.int .i64 (Min.min a b))) :: ρ) w) : Ord P n ds all k Φ s F ((i, 1) :: π) L ρ w := Ord.pure ho hd hg hgc hΦ (fun _ => EV.min h1 h2 h3) kk
theorem y_e {i d : Nat} {o : Oper} {c : Bool} {t t' : Nat} {x y : Operand} {a b : Bool} (ho : all[i]? = some o := by exact rfl) (hd : o.dst = some d := by exact rfl) (hg : gdB all ρ o.guard = some c := by exact rfl) (hgc : c = true := by exact rfl) (hΦ : ∀ c ρ w, ¬ Φ (.panic c) ρ w := by exact fun _ _ _ h => h) (h1 : o.op = .binOp .eql t x y t' := by exact rfl) (h2 : tyD P t = some .bool := by exact rfl) (h3 : ev ρ x = some (.bool a) := by exact rfl) (h4 : ev ρ y = some (.bool b) := by exact rfl) (kk : Ord P n ds all k Φ s F π (L.set i true) ((d, (.bool (a == b))) :: ρ) w) : Ord P n ds all k Φ s F ((i, 1) :: π) L ρ w := Ord.pure ho hd hg hgc hΦ (fun _ => EV.eqB h1 h2 h3 h4) kk
theorem y_E {i d : Nat} {o : Oper} {c : Bool} {t t' : Nat} {x y : Operand} {a b : Bool} (ho : all[i]? = some o := by exact rfl) (hd : o.dst = some d := by exact rfl) (hg : gdB all ρ o.guard = some c := by exact rfl) (hgc : c = true := by exact rfl) (hΦ : ∀ c ρ w, ¬ Φ (.panic c) ρ w := by exact fun _ _ _ h => h) (h1 : o.op = .binOp .neq t x y t' := by exact rfl) (h2 : tyD P t = some .bool := by exact rfl) (h3 : ev ρ x = some (.bool a) := by exact rfl) (h4 : ev ρ y = some (.bool b) := by exact rfl) (kk : Ord P n ds all k Φ s F π (L.set i true) ((d, (.bool (!(a == b)))) :: ρ) w) : Ord P n ds all k Φ s F ((i, 1) :: π) L ρ w := Ord.pure ho hd hg hgc hΦ (fun _ => EV.neB h1 h2 h3 h4) kk
theorem y_T {i d : Nat} {o : Oper} {c : Bool} {c2 x y : Operand} {b : Bool} {v : Value} (ho : all[i]? = some o := by exact rfl) (hd : o.dst = some d := by exact rfl) (hg : gdB all ρ o.guard = some c := by exact rfl) (hgc : c = true := by exact rfl) (hΦ : ∀ c ρ w, ¬ Φ (.panic c) ρ w := by exact fun _ _ _ h => h) (h1 : o.op = .pick c2 x y := by exact rfl) (h2 : ev ρ c2 = some (.bool b) := by exact rfl) (h3 : b = true := by first | rfl | assumption | (simp only [bnf] <;> omega) | fail) (h4 : ev ρ x = some v := by exact rfl) (kk : Ord P n ds all k Φ s F π (L.set i true) ((d, v) :: ρ) w) : Ord P n ds all k Φ s F ((i, 1) :: π) L ρ w := Ord.pure ho hd hg hgc hΦ (fun _ => EV.pickT h1 h2 h3 h4) kk
theorem y_F {i d : Nat} {o : Oper} {c : Bool} {c2 x y : Operand} {b : Bool} {v : Value} (ho : all[i]? = some o := by exact rfl) (hd : o.dst = some d := by exact rfl) (hg : gdB all ρ o.guard = some c := by exact rfl) (hgc : c = true := by exact rfl) (hΦ : ∀ c ρ w, ¬ Φ (.panic c) ρ w := by exact fun _ _ _ h => h) (h1 : o.op = .pick c2 x y := by exact rfl) (h2 : ev ρ c2 = some (.bool b) := by exact rfl) (h3 : b = false := by first | rfl | assumption | (simp only [bnf] <;> omega) | fail) (h4 : ev ρ y = some v := by exact rfl) (kk : Ord P n ds all k Φ s F π (L.set i true) ((d, v) :: ρ) w) : Ord P n ds all k Φ s F ((i, 1) :: π) L ρ w := Ord.pure ho hd hg hgc hΦ (fun _ => EV.pickF h1 h2 h3 h4) kk
theorem y_n {i d m : Nat} {o : Oper} {c : Bool} (ho : all[i]? = some o := by exact rfl) (hd : o.dst = some d := by exact rfl) (hg : gdB all ρ o.guard = some c := by exact rfl) (hgc : c = false := by exact rfl) (hΦ : ∀ c ρ w, ¬ Φ (.panic c) ρ w := by exact fun _ _ _ h => h) (hm : m < 2 := by decide) (kk : Ord P n ds all k Φ s F π (L.set i true) ((d, undef) :: ρ) w) : Ord P n ds all k Φ s F ((i, m + 1) :: π) L ρ w := Ord.no ho hd hg hgc hΦ hm kk
theorem y_t {i m j g : Nat} {want b : Bool} {o : Oper} (ho : all[i]? = some o := by exact rfl) (hg : o.guard = some (j, want) := by exact rfl) (hj : (all[j]?).bind (·.dst) = some g := by exact rfl) (hv : VW.look ρ g = some (.bool b) := by exact rfl) (hb : b = true := by first | assumption | (simp only [bnf]; omega) | (simp only [*, bnf]; done) | fail) (kk : Ord P n ds all k Φ s F ((i, m) :: π) L ((g, .bool true) :: ρ) w) : Ord P n ds all k Φ s F ((i, m) :: π) L ρ w := Ord.lit ho hg hj hv hb kk
theorem y_f {i m j g : Nat} {want b : Bool} {o : Oper} (ho : all[i]? = some o := by exact rfl) (hg : o.guard = some (j, want) := by exact rfl) (hj : (all[j]?).bind (·.dst) = some g := by exact rfl) (hv : VW.look ρ g = some (.bool b) := by exact rfl) (hb : b = false := by first | assumption | (simp only [bnf]; omega) | (simp only [*, bnf]; done) | fail) (kk : Ord P n ds all k Φ s F ((i, m) :: π) L ((g, .bool false) :: ρ) w) : Ord P n ds all k Φ s F ((i, m) :: π) L ρ w := Ord.lit ho hg hj hv hb kk
theorem y_I {i1 i2 d1 d2 t t' e : Nat} {o1 o2 : Oper} {x y : Operand} {v : Value} {i : Nat} {xs : List Int} {w0 : World} {c1 c2 : Bool} (h1 : all[i1]? = some o1 := by exact rfl) (ho : o1.op = .indexAddr t x y := by exact rfl) (hd1 : o1.dst = some d1 := by exact rfl) (hg1 : gdB all ρ o1.guard = some c1 := by exact rfl) (hc1 : c1 = true := by exact rfl) (h2 : all[i2]? = some o2 := by exact rfl) (ho2 : o2.op = .load t' (.tmp d1) := by exact rfl) (hd2 : o2.dst = some d2 := by exact rfl) (hg2 : ∀ p, gdB all ((d1, .pointer p) :: ρ) o2.guard = some c2 := by exact fun _ => rfl) (hc2 : c2 = true := by exact rfl) (ht : tyD P t = some (.slice e) := by exact rfl) (hs : tyS P e = some 1 := by exact rfl) (ha : tyAgg P t' = some false := by exact rfl) (hx : ev ρ x = some v := by exact rfl) (hy : ev ρ y = some (.int .i64 (i : Int)) := by exact rfl) (hsl : SlI w0 v xs := by first | assumption | exact OI.sl (by assumption)) (hF : ∀ w, F w → Below w0.heap.size w0 w := by first | exact fun _ h => h | (intro _ h; exact Below.via (by assumption) h)) (hi : i < xs.length := by omega) (hΦ : ∀ c ρ w, ¬ Φ (.panic c) ρ w := by exact fun _ _ _ h => h) (kk : ∀ p, Ord P n ds all k Φ s F π ((L.set i1 true).set i2 true) ((d2, Value.int .i64 (xs.getD i 0)) :: (d1, p) :: ρ) w) : Ord P n ds all k Φ s F ((i1, 1) :: (i2, 2) :: π) L ρ w := Ord.rdSn h1 ho hd1 hg1 hc1 h2 ho2 hd2 hg2 hc2 ht hs ha hx hy hsl hF hi hΦ kk
theorem y_J {i1 i2 d1 d2 t t' e : Nat} {o1 o2 : Oper} {x y : Operand} {v : Value} {i : Nat} {xs : List Bool} {w0 : World} {c1 c2 : Bool} (h1 : all[i1]? = some o1 := by exact rfl) (ho : o1.op = .indexAddr t x y := by exact rfl) (hd1 : o1.dst = some d1 := by exact rfl) (hg1 : gdB all ρ o1.guard = some c1 := by exact rfl) (hc1 : c1 = true := by exact rfl) (h2 : all[i2]? = some o2 := by exact rfl) (ho2 : o2.op = .load t' (.tmp d1) := by exact rfl) (hd2 : o2.dst = some d2 := by exact rfl) (hg2 : ∀ p, gdB all ((d1, .pointer p) :: ρ) o2.guard = some c2 := by exact fun _ => rfl) (hc2 : c2 = true := by exact rfl) (ht : tyD P t = some (.slice e) := by exact rfl) (hs : tyS P e = some 1 := by exact rfl) (ha : tyAgg P t' = some false := by exact rfl) (hx : ev ρ x = some v := by exact rfl) (hy : ev ρ y = some (.int .i64 (i : Int)) := by exact rfl) (hsl : SlB w0 v xs := by first | assumption | exact OI.sl (by assumption)) (hF : ∀ w, F w → Below w0.heap.size w0 w := by first | exact fun _ h => h | (intro _ h; exact Below.via (by assumption) h)) (hi : i < xs.length := by omega) (hΦ : ∀ c ρ w, ¬ Φ (.panic c) ρ w := by exact fun _ _ _ h => h) (kk : ∀ p, Ord P n ds all k Φ s F π ((L.set i1 true).set i2 true) ((d2, Value.bool (xs.getD i false)) :: (d1, p) :: ρ) w) : Ord P n ds all k Φ s F ((i1, 1) :: (i2, 2) :: π) L ρ w := Ord.rdSn h1 ho hd1 hg1 hc1 h2 ho2 hd2 hg2 hc2 ht hs ha hx hy hsl hF hi hΦ kk
theorem y_K {i1 i2 d1 d2 t t' e : Nat} {o1 o2 : Oper} {x y : Operand} {v : Value} {i : Int} {xs : List Int} {w0 : World} {c1 c2 : Bool} (h1 : all[i1]? = some o1 := by exact rfl) (ho : o1.op = .indexAddr t x y := by exact rfl) (hd1 : o1.dst = some d1 := by exact rfl) (hg1 : gdB all ρ o1.guard = some c1 := by exact rfl) (hc1 : c1 = true := by exact rfl) (h2 : all[i2]? = some o2 := by exact rfl) (ho2 : o2.op = .load t' (.tmp d1) := by exact rfl) (hd2 : o2.dst = some d2 := by exact rfl) (hg2 : ∀ p, gdB all ((d1, .pointer p) :: ρ) o2.guard = some c2 := by exact fun _ => rfl) (hc2 : c2 = true := by exact rfl) (ht : tyD P t = some (.slice e) := by exact rfl) (hs : tyS P e = some 1 := by exact rfl) (ha : tyAgg P t' = some false := by exact rfl) (hx : ev ρ x = some v := by exact rfl) (hy : ev ρ y = some (.int .i64 i) := by exact rfl) (hsl : SlI w0 v xs := by first | assumption | exact OI.sl (by assumption)) (hF : ∀ w, F w → Below w0.heap.size w0 w := by first | exact fun _ h => h | (intro _ h; exact Below.via (by assumption) h)) (h0 : 0 ≤ i := by omega) (hi : i < xs.length := by omega) (hΦ : ∀ c ρ w, ¬ Φ (.panic c) ρ w := by exact fun _ _ _ h => h) (kk : ∀ p, Ord P n ds all k Φ s F π ((L.set i1 true).set i2 true) ((d2, Value.int .i64 (xs.getD i.toNat 0)) :: (d1, p) :: ρ) w) : Ord P n ds all k Φ s F ((i1, 1) :: (i2, 2) :: π) L ρ w := Ord.rdS h1 ho hd1 hg1 hc1 h2 ho2 hd2 hg2 hc2 ht hs ha hx hy hsl hF h0 hi hΦ kk
theorem y_L {i1 i2 d1 d2 t t' e : Nat} {o1 o2 : Oper} {x y : Operand} {v : Value} {i : Int} {xs : List Bool} {w0 : World} {c1 c2 : Bool} (h1 : all[i1]? = some o1 := by exact rfl) (ho : o1.op = .indexAddr t x y := by exact rfl) (hd1 : o1.dst = some d1 := by exact rfl) (hg1 : gdB all ρ o1.guard = some c1 := by exact rfl) (hc1 : c1 = true := by exact rfl) (h2 : all[i2]? = some o2 := by exact rfl) (ho2 : o2.op = .load t' (.tmp d1) := by exact rfl) (hd2 : o2.dst = some d2 := by exact rfl) (hg2 : ∀ p, gdB all ((d1, .pointer p) :: ρ) o2.guard = some c2 := by exact fun _ => rfl) (hc2 : c2 = true := by exact rfl) (ht : tyD P t = some (.slice e) := by exact rfl) (hs : tyS P e = some 1 := by exact rfl) (ha : tyAgg P t' = some false := by exact rfl) (hx : ev ρ x = some v := by exact rfl) (hy : ev ρ y = some (.int .i64 i) := by exact rfl) (hsl : SlB w0 v xs := by first | assumption | exact OI.sl (by assumption)) (hF : ∀ w, F w → Below w0.heap.size w0 w := by first | exact fun _ h => h | (intro _ h; exact Below.via (by assumption) h)) (h0 : 0 ≤ i := by omega) (hi : i < xs.length := by omega) (hΦ : ∀ c ρ w, ¬ Φ (.panic c) ρ w := by exact fun _ _ _ h => h) (kk : ∀ p, Ord P n ds all k Φ s F π ((L.set i1 true).set i2 true) ((d2, Value.bool (xs.getD i.toNat false)) :: (d1, p) :: ρ) w) : Ord P n ds all k Φ s F ((i1, 1) :: (i2, 2) :: π) L ρ w := Ord.rdS h1 ho hd1 hg1 hc1 h2 ho2 hd2 hg2 hc2 ht hs ha hx hy hsl hF h0 hi hΦ kk
end
end Go.Proofs.Ytdiljpnfochndaa.VW
namespace Go.Proofs.Ytdiljpnfochndaa
open Go Go.RowKit Go.Proofs.Ytdiljpnfochndaa.VW
instance : Tab Try.prog where
  T := [⟨2, .int .i64, 1, 8, (.int .i64 0)⟩,
    ⟨3, .int .i64, 1, 8, (.int .i64 0)⟩,
    ⟨4, .bool, 1, 1, (.bool false)⟩,
    ⟨5, .int .u8, 1, 1, (.int .u8 0)⟩,
    ⟨6, .int .u8, 1, 1, (.int .u8 0)⟩,
    ⟨7, .struct [(0, 1), (1, 1), (2, 1), (3, 1)], 4, 24, (.agg #[(.int .i64 0), (.int .i64 0), (.bool false), (.int .u8 0)])⟩,
    ⟨8, .struct [(0, 1), (1, 1), (2, 1), (3, 1)], 4, 24, (.agg #[(.int .i64 0), (.int .i64 0), (.bool false), (.int .u8 0)])⟩,
    ⟨9, .string, 1, 16, (.string ByteArray.empty)⟩,
    ⟨11, .string, 1, 16, (.string ByteArray.empty)⟩,
    ⟨12, .int .u64, 1, 8, (.int .u64 0)⟩,
    ⟨13, .struct [(0, 1), (1, 1)], 2, 24, (.agg #[(.string ByteArray.empty), (.int .u64 0)])⟩,
    ⟨15, .pointer 139, 1, 8, (.pointer none)⟩,
    ⟨16, .pointer 142, 1, 8, (.pointer none)⟩,
    ⟨17, .pointer 151, 1, 8, (.pointer none)⟩,
    ⟨18, .struct [(0, 1)], 1, 8, (.agg #[(.pointer none)])⟩,
    ⟨19, .struct [(0, 1)], 1, 8, (.agg #[(.pointer none)])⟩,
    ⟨20, .iface, 1, 16, .nilIface⟩,
    ⟨21, .int .i32, 1, 4, (.int .i32 0)⟩,
    ⟨22, .slice 47, 1, 24, (.slice none 0 0)⟩,
    ⟨24, .slice 3, 1, 24, (.slice none 0 0)⟩,
    ⟨25, .int .i64, 1, 8, (.int .i64 0)⟩,
    ⟨46, .struct [(0, 1), (1, 1)], 2, 32, (.agg #[(.slice none 0 0), (.int .i64 0)])⟩,
    ⟨47, .struct [(0, 1), (1, 1)], 2, 32, (.agg #[(.slice none 0 0), (.int .i64 0)])⟩,
    ⟨66, .slice 4, 1, 24, (.slice none 0 0)⟩,
    ⟨69, .pointer 100, 1, 8, (.pointer none)⟩,
    ⟨79, .map 3 4, 1, 8, (.map none)⟩,
    ⟨83, .struct [(0, 1), (1, 1)], 2, 32, (.agg #[(.int .i64 0), (.slice none 0 0)])⟩,
    ⟨84, .struct [(0, 1), (1, 1)], 2, 32, (.agg #[(.int .i64 0), (.slice none 0 0)])⟩,
    ⟨86, .slice 24, 1, 24, (.slice none 0 0)⟩,
    ⟨87, .int .u64, 1, 8, (.int .u64 0)⟩,
    ⟨99, .struct [(0, 1), (1, 1)], 2, 48, (.agg #[(.slice none 0 0), (.slice none 0 0)])⟩,
    ⟨100, .struct [(0, 1), (1, 1)], 2, 48, (.agg #[(.slice none 0 0), (.slice none 0 0)])⟩,
    ⟨103, .slice 84, 1, 24, (.slice none 0 0)⟩,
    ⟨114, .int .i64, 1, 8, (.int .i64 0)⟩,
    ⟨122, .int .u32, 1, 4, (.int .u32 0)⟩,
    ⟨124, .int .u64, 1, 8, (.int .u64 0)⟩,
    ⟨129, .int .u64, 1, 8, (.int .u64 0)⟩,
    ⟨133, .pointer 3, 1, 8, (.pointer none)⟩,
    ⟨135, .pointer 129, 1, 8, (.pointer none)⟩,
    ⟨138, .struct [(0, 1), (1, 1), (2, 1), (3, 1)], 4, 40, (.agg #[(.pointer none), (.pointer none), (.pointer none), (.string ByteArray.empty)])⟩,
    ⟨139, .struct [(0, 1), (1, 1), (2, 1), (3, 1)], 4, 40, (.agg #[(.pointer none), (.pointer none), (.pointer none), (.string ByteArray.empty)])⟩,
    ⟨140, .array 0 16, 0, 0, (.agg #[])⟩,
    ⟨141, .struct [(0, 0)], 0, 0, (.agg #[])⟩,
    ⟨142, .struct [(0, 0)], 0, 0, (.agg #[])⟩,
    ⟨144, .int .u8, 1, 1, (.int .u8 0)⟩,
    ⟨145, .int .u8, 1, 1, (.int .u8 0)⟩,
    ⟨147, .pointer 5, 1, 8, (.pointer none)⟩,
    ⟨148, .int .i32, 1, 4, (.int .i32 0)⟩,
    ⟨149, .int .i32, 1, 4, (.int .i32 0)⟩,
    ⟨150, .struct [(0, 1), (1, 1), (2, 1), (3, 1), (4, 1), (5, 1), (6, 1), (7, 1), (8, 1), (9, 1), (10, 1)], 11, 48, (.agg #[(.int .u64 0), (.int .u64 0), (.int .u32 0), (.int .u8 0), (.int .u8 0), (.int .u8 0), (.int .u8 0), .nilFunc, (.pointer none), (.int .i32 0), (.int .i32 0)])⟩,
    ⟨151, .struct [(0, 1), (1, 1), (2, 1), (3, 1), (4, 1), (5, 1), (6, 1), (7, 1), (8, 1), (9, 1), (10, 1)], 11, 48, (.agg #[(.int .u64 0), (.int .u64 0), (.int .u32 0), (.int .u8 0), (.int .u8 0), (.int .u8 0), (.int .u8 0), .nilFunc, (.pointer none), (.int .i32 0), (.int .i32 0)])⟩,
    ⟨1, .func, 1, 8, .nilFunc⟩,
    ⟨23, .func, 1, 8, .nilFunc⟩,
    ⟨27, .func, 1, 8, .nilFunc⟩,
    ⟨28, .func, 1, 8, .nilFunc⟩,
    ⟨29, .func, 1, 8, .nilFunc⟩,
    ⟨30, .func, 1, 8, .nilFunc⟩,
    ⟨31, .func, 1, 8, .nilFunc⟩,
    ⟨32, .func, 1, 8, .nilFunc⟩,
    ⟨33, .func, 1, 8, .nilFunc⟩,
    ⟨34, .func, 1, 8, .nilFunc⟩,
    ⟨35, .func, 1, 8, .nilFunc⟩,
    ⟨36, .func, 1, 8, .nilFunc⟩,
    ⟨38, .func, 1, 8, .nilFunc⟩,
    ⟨40, .func, 1, 8, .nilFunc⟩,
    ⟨42, .func, 1, 8, .nilFunc⟩,
    ⟨43, .func, 1, 8, .nilFunc⟩,
    ⟨44, .func, 1, 8, .nilFunc⟩,
    ⟨45, .func, 1, 8, .nilFunc⟩,
    ⟨49, .func, 1, 8, .nilFunc⟩,
    ⟨50, .func, 1, 8, .nilFunc⟩,
    ⟨51, .func, 1, 8, .nilFunc⟩,
    ⟨53, .func, 1, 8, .nilFunc⟩,
    ⟨55, .func, 1, 8, .nilFunc⟩,
    ⟨56, .func, 1, 8, .nilFunc⟩,
    ⟨57, .func, 1, 8, .nilFunc⟩,
    ⟨58, .func, 1, 8, .nilFunc⟩,
    ⟨60, .func, 1, 8, .nilFunc⟩,
    ⟨61, .func, 1, 8, .nilFunc⟩,
    ⟨62, .func, 1, 8, .nilFunc⟩,
    ⟨64, .func, 1, 8, .nilFunc⟩,
    ⟨65, .func, 1, 8, .nilFunc⟩,
    ⟨67, .func, 1, 8, .nilFunc⟩,
    ⟨68, .func, 1, 8, .nilFunc⟩,
    ⟨71, .func, 1, 8, .nilFunc⟩,
    ⟨72, .func, 1, 8, .nilFunc⟩,
    ⟨73, .func, 1, 8, .nilFunc⟩,
    ⟨74, .func, 1, 8, .nilFunc⟩,
    ⟨75, .func, 1, 8, .nilFunc⟩,
    ⟨76, .func, 1, 8, .nilFunc⟩,
    ⟨77, .func, 1, 8, .nilFunc⟩,
    ⟨78, .func, 1, 8, .nilFunc⟩,
    ⟨81, .func, 1, 8, .nilFunc⟩,
    ⟨82, .func, 1, 8, .nilFunc⟩,
    ⟨85, .func, 1, 8, .nilFunc⟩,
    ⟨88, .func, 1, 8, .nilFunc⟩,
    ⟨89, .func, 1, 8, .nilFunc⟩,
    ⟨90, .func, 1, 8, .nilFunc⟩,
    ⟨91, .func, 1, 8, .nilFunc⟩,
    ⟨92, .func, 1, 8, .nilFunc⟩,
    ⟨93, .func, 1, 8, .nilFunc⟩,
    ⟨94, .func, 1, 8, .nilFunc⟩,
    ⟨95, .func, 1, 8, .nilFunc⟩,
    ⟨96, .func, 1, 8, .nilFunc⟩,
    ⟨97, .func, 1, 8, .nilFunc⟩,
    ⟨98, .func, 1, 8, .nilFunc⟩,
    ⟨101, .func, 1, 8, .nilFunc⟩,
    ⟨102, .func, 1, 8, .nilFunc⟩,
    ⟨104, .func, 1, 8, .nilFunc⟩,
    ⟨105, .func, 1, 8, .nilFunc⟩,
    ⟨106, .func, 1, 8, .nilFunc⟩,
    ⟨107, .func, 1, 8, .nilFunc⟩,
    ⟨108, .func, 1, 8, .nilFunc⟩,
    ⟨110, .func, 1, 8, .nilFunc⟩,
    ⟨111, .func, 1, 8, .nilFunc⟩,
    ⟨112, .func, 1, 8, .nilFunc⟩,
    ⟨113, .func, 1, 8, .nilFunc⟩,
    ⟨116, .func, 1, 8, .nilFunc⟩,
    ⟨117, .func, 1, 8, .nilFunc⟩,
    ⟨118, .func, 1, 8, .nilFunc⟩,
    ⟨119, .func, 1, 8, .nilFunc⟩,
    ⟨120, .func, 1, 8, .nilFunc⟩,
    ⟨121, .func, 1, 8, .nilFunc⟩,
    ⟨123, .func, 1, 8, .nilFunc⟩,
    ⟨126, .func, 1, 8, .nilFunc⟩,
    ⟨128, .func, 1, 8, .nilFunc⟩,
    ⟨130, .func, 1, 8, .nilFunc⟩,
    ⟨131, .func, 1, 8, .nilFunc⟩,
    ⟨132, .func, 1, 8, .nilFunc⟩,
    ⟨134, .func, 1, 8, .nilFunc⟩,
    ⟨136, .func, 1, 8, .nilFunc⟩,
    ⟨137, .func, 1, 8, .nilFunc⟩,
    ⟨143, .func, 1, 8, .nilFunc⟩,
    ⟨146, .func, 1, 8, .nilFunc⟩]
  ok := by kernel_rfl
instance : Fns Try.prog where
  L := [2, 3, 4, 5, 6, 7, 8, 9, 10, 11, 12, 13, 14, 15, 16, 17, 18, 19, 20, 21, 22, 23, 24, 25, 26, 27, 28, 29, 30, 31, 32, 33, 34, 35, 36, 37, 38, 39, 40, 41, 42, 43, 44, 45, 46, 47, 48, 49, 50, 51, 52, 53, 54, 55, 56, 57, 58, 59, 60, 61, 62, 63, 64, 65, 66, 67, 68, 69, 70, 71, 72, 73, 74, 75, 76, 77, 78, 79, 80, 81, 82, 83, 84, 85, 86, 87, 88, 89, 90, 91, 92, 93, 94, 95, 96, 97, 98, 99, 100, 101, 102, 103, 104, 105, 106, 107, 108, 109, 110, 111, 112, 113, 114, 115, 116, 117, 118, 119, 120, 121, 122, 123, 124, 125, 126, 127]
  ok := by kernel_rfl
end Go.Proofs.Ytdiljpnfochndaa
/- The plain side of the trees. -/
namespace Go.Proofs.Ytdiljpnfochndaa.HP
abbrev Nd := List Int × Int
abbrev rd (xs : List Int) (i : Int) : Int := xs.getD i.toNat 0
def kid (l : List Nd) (i : Int) : List Int := (l.getD i.toNat ([], 0)).1
def wor (l : List Nd) (i : Int) : Int := (l.getD i.toNat ([], 0)).2
def leafB (l : List Nd) (i : Int) : Bool := (kid l i).isEmpty
/-- The depths below one node. -/
def kidsStep (n i : Int) : List Int → List Int → Option (List Int)
  | [], dep => some dep
  | c :: cs, dep => if i + 1 ≤ c ∧ c ≤ n - 1 ∧ rd dep c ≤ 0 then kidsStep n i cs (dep.set c.toNat (rd dep i + 1)) else none
def nodesStep (n : Int) : Int → List Nd → List Int → Option (List Int)
  | _, [], dep => some dep
  | i, x :: r, dep => if (0 < i ∧ rd dep i = 0) ∨ ¬ (-100 ≤ x.2 ∧ x.2 ≤ 100) ∨ (0 < x.1.length ∧ x.2 ≠ 0) then none else (kidsStep n i x.1 dep).bind (nodesStep n (i + 1) r)
def cnt (dep : List Int) : Nat := dep.countP fun x => decide (0 < x)
/-- The depths of a tree; none: it is no tree. -/
def gameOf (l : List Nd) : Option (List Int) :=
  if 1 ≤ l.length ∧ l.length ≤ 60 then (nodesStep l.length 0 l (List.replicate l.length 0)).bind fun dep => if 1 + cnt dep = l.length then some dep else none else none
theorem drop_get {α : Type} (l : List α) (i : Nat) (z : α) (h : i < l.length) : l.drop i = l.getD i z :: l.drop (i + 1) := by
  rw [List.drop_eq_getElem_cons h]
  congr 1
  simp [List.getD_eq_getElem?_getD, h]
theorem nodes_at (n : Int) (l : List Nd) (i : Nat) (dep : List Int) (h : i < l.length) : nodesStep n i (l.drop i) dep =
    if (0 < (i : Int) ∧ rd dep i = 0) ∨ ¬ (-100 ≤ wor l i ∧ wor l i ≤ 100) ∨ (0 < (kid l i).length ∧ wor l i ≠ 0) then none else (kidsStep n i (kid l i) dep).bind (nodesStep n (i + 1) (l.drop (i + 1))) := by
  rw [drop_get l i ([], 0) h]
  simp only [nodesStep, kid, wor, Int.toNat_natCast]
  congr
theorem kids_at (n i : Int) (cs : List Int) (j : Nat) (dep : List Int) (h : j < cs.length) : kidsStep n i (cs.drop j) dep =
    if i + 1 ≤ cs.getD j 0 ∧ cs.getD j 0 ≤ n - 1 ∧ rd dep (cs.getD j 0) ≤ 0 then kidsStep n i (cs.drop (j + 1)) (dep.set (cs.getD j 0).toNat (rd dep i + 1)) else none := by
  rw [drop_get cs j 0 h]
  simp only [kidsStep]
theorem cnt_set {dep : List Int} {c : Nat} {x : Int} (hc : c < dep.length) (h0 : dep.getD c 0 ≤ 0) (hx : 0 < x) : cnt (dep.set c x) = cnt dep + 1 := by
  unfold cnt
  induction dep generalizing c with
  | nil => simp at hc
  | cons a r ih =>
    cases c with
    | zero => simp at h0 hc; simp [List.countP_cons, hx]; omega
    | succ c =>
      simp only [List.set_cons_succ, List.countP_cons]
      rw [ih (by simpa using hc) (by simpa using h0)]
      omega
theorem cnt_le (dep : List Int) : cnt dep ≤ dep.length := List.countP_le_length
end Go.Proofs.Ytdiljpnfochndaa.HP
/- What a tree's depths tell. -/
namespace Go.Proofs.Ytdiljpnfochndaa.HP
def k_ (l : List Nd) (a b : Nat) : Int := (kid l a).getD b 0
def Dn (i j a b : Nat) : Prop := a < i ∨ (a = i ∧ b < j)
structure Inv (l : List Nd) (i j : Nat) (dep : List Int) : Prop where
  len : dep.length = l.length
  p1 : ∀ a b, Dn i j a b → b < (kid l a).length → (a : Int) < k_ l a b ∧ k_ l a b < l.length ∧ rd dep (k_ l a b) = rd dep a + 1
  p2 : ∀ c : Nat, 0 < dep.getD c 0 → ∃ a b, Dn i j a b ∧ b < (kid l a).length ∧ k_ l a b = c
  p3 : ∀ a b a' b', Dn i j a b → b < (kid l a).length → Dn i j a' b' → b' < (kid l a').length → k_ l a b = k_ l a' b' → a = a' ∧ b = b'
  p4 : ∀ c : Nat, 0 ≤ dep.getD c 0 ∧ dep.getD c 0 ≤ c
  p5 : ∀ a b, Dn i j a b → b < (kid l a).length → b < cnt dep
theorem getD_set_eq {dep : List Int} {c : Nat} {x : Int} (h : c < dep.length) : (dep.set c x).getD c 0 = x := by
  rw [List.getD_eq_getElem?_getD, List.getElem?_set_self h]; rfl
theorem getD_set_ne {dep : List Int} {c d : Nat} {x : Int} (h : c ≠ d) : (dep.set c x).getD d 0 = dep.getD d 0 := by
  rw [List.getD_eq_getElem?_getD, List.getElem?_set_ne h, ← List.getD_eq_getElem?_getD]
theorem inv_step {l : List Nd} {i j : Nat} {dep : List Int} (h : Inv l i j dep) (hi : i < l.length) (hj : j < (kid l i).length) (h1 : (i : Int) + 1 ≤ k_ l i j) (h2 : k_ l i j ≤ l.length - 1) (h3 : rd dep (k_ l i j) ≤ 0) (hb : ∀ b, b < j → b < cnt dep) (hjc : j ≤ cnt dep) :
    Inv l i (j + 1) (dep.set (k_ l i j).toNat (rd dep i + 1)) := by
  have hbi := h.p4 i
  simp only [rd] at h3
  have hcn : (k_ l i j).toNat < dep.length := by rw [h.len]; omega
  have hsub : ∀ a b, Dn i (j + 1) a b → Dn i j a b ∨ (a = i ∧ b = j) := by
    intro a b hd
    unfold Dn at *
    omega
  have hold : ∀ a b, Dn i j a b → b < (kid l a).length → (k_ l a b).toNat ≠ (k_ l i j).toNat ∧ a ≠ (k_ l i j).toNat := by
    intro a b hd hl
    obtain ⟨q1, q2, q3⟩ := h.p1 a b hd hl
    refine ⟨fun e => ?_, ?_⟩
    · have ha := h.p4 a
      simp only [rd] at q3
      rw [e] at q3
      simp only [Int.toNat_natCast] at q3
      omega
    · unfold Dn at hd; omega
  have hc : cnt (dep.set (k_ l i j).toNat (rd dep i + 1)) = cnt dep + 1 := cnt_set hcn h3 (by simp only [rd, Int.toNat_natCast]; omega)
  refine ⟨by simpa using h.len, ?_, ?_, ?_, ?_, ?_⟩
  · intro a b hd hl
    rcases hsub a b hd with hd | ⟨rfl, rfl⟩
    · obtain ⟨q1, q2, q3⟩ := h.p1 a b hd hl
      obtain ⟨e1, e2⟩ := hold a b hd hl
      refine ⟨q1, q2, ?_⟩
      simp only [rd, Int.toNat_natCast] at q3 ⊢
      rw [getD_set_ne (Ne.symm e1), getD_set_ne (Ne.symm e2)]
      exact q3
    · refine ⟨by omega, by omega, ?_⟩
      simp only [rd, Int.toNat_natCast]
      rw [getD_set_eq hcn, getD_set_ne (by omega)]
  · intro c hc0
    by_cases e : (k_ l i j).toNat = c
    · exact ⟨i, j, .inr ⟨rfl, by omega⟩, hj, by omega⟩
    · rw [getD_set_ne e] at hc0
      obtain ⟨a, b, hd, hl, hk⟩ := h.p2 c hc0
      exact ⟨a, b, by unfold Dn at *; omega, hl, hk⟩
  · intro a b a' b' hd hl hd' hl' he
    rcases hsub a b hd with hd | ⟨rfl, rfl⟩ <;> rcases hsub a' b' hd' with hd' | ⟨rfl, rfl⟩
    · exact h.p3 a b a' b' hd hl hd' hl' he
    · exact absurd (by rw [he]) (hold a b hd hl).1
    · exact absurd (by rw [he]) (hold a' b' hd' hl').1
    · exact ⟨rfl, rfl⟩
  · intro c
    by_cases e : (k_ l i j).toNat = c
    · rw [← e, getD_set_eq hcn]
      simp only [rd, Int.toNat_natCast]
      omega
    · rw [getD_set_ne e]; exact h.p4 c
  · intro a b hd hl
    rw [hc]
    rcases hsub a b hd with hd | ⟨rfl, rfl⟩
    · have := h.p5 a b hd hl; omega
    · omega
theorem kids_inv {l : List Nd} {i : Nat} (hi : i < l.length) (d : Nat) : ∀ (j : Nat) (dep dep' : List Int), (kid l i).length - j = d → j ≤ (kid l i).length → Inv l i j dep → j ≤ cnt dep → kidsStep l.length i ((kid l i).drop j) dep = some dep' → Inv l i (kid l i).length dep' := by
  induction d with
  | zero =>
    intro j dep dep' hd hj h hjc hs
    have : j = (kid l i).length := by omega
    subst this
    rw [List.drop_length] at hs
    simp only [kidsStep, Option.some.injEq] at hs
    subst hs
    exact h
  | succ d ih =>
    intro j dep dep' hd hj h hjc hs
    have hlt : j < (kid l i).length := by omega
    rw [kids_at _ _ _ _ _ hlt] at hs
    split at hs
    · rename_i hc
      have hbi := h.p4 i
      have h3 := hc.2.2
      simp only [rd] at h3
      have hcc : cnt (dep.set (k_ l i j).toNat (rd dep i + 1)) = cnt dep + 1 := cnt_set (by rw [h.len]; have := hc.1; have := hc.2.1; simp only [k_]; omega) h3 (by simp only [rd, Int.toNat_natCast]; omega)
      exact ih (j + 1) _ dep' (by omega) (by omega) (inv_step h hi hlt hc.1 hc.2.1 hc.2.2 (fun b hb => by omega) hjc) (by rw [hcc]; omega) hs
    · cases hs
/-- What is behind node i: everything before it is done. -/
structure NInv (l : List Nd) (i : Nat) (dep : List Int) : Prop where
  inv : Inv l i 0 dep
  pos : ∀ c : Nat, 1 ≤ c → c < i → 0 < dep.getD c 0
  wor : ∀ a : Nat, a < i → -100 ≤ wor l a ∧ wor l a ≤ 100 ∧ (0 < (kid l a).length → Go.Proofs.Ytdiljpnfochndaa.HP.wor l a = 0)
theorem kids_keep {l : List Nd} {i : Nat} (d : Nat) : ∀ (j : Nat) (dep dep' : List Int), (kid l i).length - j = d → dep.length = l.length → kidsStep l.length i ((kid l i).drop j) dep = some dep' → ∀ c : Nat, c ≤ i → dep'.getD c 0 = dep.getD c 0 := by
  induction d with
  | zero =>
    intro j dep dep' hd hl hs c hc
    rw [List.drop_eq_nil_of_le (by omega)] at hs
    simp only [kidsStep, Option.some.injEq] at hs
    rw [hs]
  | succ d ih =>
    intro j dep dep' hd hl hs c hc
    rw [kids_at _ _ _ _ _ (by omega)] at hs
    split at hs
    · rename_i hh
      rw [ih (j + 1) _ dep' (by omega) (by simpa using hl) hs c hc, getD_set_ne (by omega)]
    · cases hs
theorem nodes_inv {l : List Nd} (d : Nat) : ∀ (i : Nat) (dep dep' : List Int), l.length - i = d → i ≤ l.length → NInv l i dep → nodesStep l.length i (l.drop i) dep = some dep' → NInv l l.length dep' := by
  induction d with
  | zero =>
    intro i dep dep' hd hi h hs
    have : i = l.length := by omega
    subst this
    rw [List.drop_length] at hs
    simp only [nodesStep, Option.some.injEq] at hs
    subst hs
    exact h
  | succ d ih =>
    intro i dep dep' hd hi h hs
    have hlt : i < l.length := by omega
    rw [nodes_at _ _ _ _ hlt] at hs
    split at hs
    · cases hs
    · rename_i hc
      rw [Option.bind_eq_some_iff] at hs
      obtain ⟨dep1, h1, h2⟩ := hs
      have hk := kids_inv hlt _ 0 dep dep1 rfl (Nat.zero_le _) h.inv (Nat.zero_le _) (by simpa using h1)
      have hkeep := kids_keep _ 0 dep dep1 rfl h.inv.len (by simpa using h1)
      refine ih (i + 1) dep1 dep' (by omega) (by omega) ⟨⟨hk.len, ?_, ?_, ?_, hk.p4, ?_⟩, ?_, ?_⟩ h2
      · intro a b hd hl; exact hk.p1 a b (by unfold Dn at *; by_cases e : a = i; subst e; exact .inr ⟨rfl, hl⟩; omega) hl
      · intro c hc; obtain ⟨a, b, h1, h2, h3⟩ := hk.p2 c hc; exact ⟨a, b, by unfold Dn at *; omega, h2, h3⟩
      · intro a b a' b' hd hl hd' hl' he
        exact hk.p3 a b a' b' (by unfold Dn at *; by_cases e : a = i; subst e; exact .inr ⟨rfl, hl⟩; omega) hl (by unfold Dn at *; by_cases e : a' = i; subst e; exact .inr ⟨rfl, hl'⟩; omega) hl' he
      · intro a b hd hl; exact hk.p5 a b (by unfold Dn at *; by_cases e : a = i; subst e; exact .inr ⟨rfl, hl⟩; omega) hl
      · intro c hc1 hc2
        rw [hkeep c (by omega)]
        by_cases e : c = i
        · subst e
          have := h.inv.p4 c
          simp only [rd, Int.toNat_natCast] at hc
          omega
        · exact h.pos c hc1 (by omega)
      · intro a ha
        by_cases e : a = i
        · subst e
          by_cases h1 : -100 ≤ Go.Proofs.Ytdiljpnfochndaa.HP.wor l a ∧ Go.Proofs.Ytdiljpnfochndaa.HP.wor l a ≤ 100
          · refine ⟨h1.1, h1.2, fun hp => ?_⟩
            by_cases h2 : Go.Proofs.Ytdiljpnfochndaa.HP.wor l a = 0
            · exact h2
            · exact absurd (.inr (.inr ⟨hp, h2⟩)) hc
          · exact absurd (.inr (.inl h1)) hc
        · exact h.wor a (by omega)
/-- What is known of a tree. -/
structure TF (l : List Nd) (dep : List Int) : Prop where
  n1 : 1 ≤ l.length
  n60 : l.length ≤ 60
  len : dep.length = l.length
  kin : ∀ a b : Nat, a < l.length → b < (kid l a).length → (a : Int) < k_ l a b ∧ k_ l a b < l.length
  kdep : ∀ a b : Nat, a < l.length → b < (kid l a).length → rd dep (k_ l a b) = rd dep a + 1
  inj : ∀ a b a' b' : Nat, a < l.length → b < (kid l a).length → a' < l.length → b' < (kid l a').length → k_ l a b = k_ l a' b' → a = a' ∧ b = b'
  cov : ∀ c : Nat, 1 ≤ c → c < l.length → ∃ a b : Nat, a < l.length ∧ b < (kid l a).length ∧ k_ l a b = c
  dbd : ∀ c : Nat, 0 ≤ dep.getD c 0 ∧ dep.getD c 0 ≤ c
  klen : ∀ a : Nat, a < l.length → (kid l a).length ≤ 60
  wor : ∀ a : Nat, a < l.length → -100 ≤ wor l a ∧ Go.Proofs.Ytdiljpnfochndaa.HP.wor l a ≤ 100 ∧ (0 < (kid l a).length → Go.Proofs.Ytdiljpnfochndaa.HP.wor l a = 0)
theorem gameOf_TF {l : List Nd} {dep : List Int} (h : gameOf l = some dep) : TF l dep := by
  unfold gameOf at h
  by_cases hn : 1 ≤ l.length ∧ l.length ≤ 60
  · rw [if_pos hn, Option.bind_eq_some_iff] at h
    obtain ⟨dep1, h1, h2⟩ := h
    by_cases hc : 1 + cnt dep1 = l.length
    · rw [if_pos hc] at h2
      simp only [Option.some.injEq] at h2
      subst h2
      have hz : ∀ c : Nat, (List.replicate l.length (0 : Int)).getD c 0 = 0 := by
        intro c; rw [List.getD_eq_getElem?_getD, List.getElem?_replicate]; split <;> rfl
      have hi := nodes_inv _ 0 _ dep1 rfl (Nat.zero_le _) (⟨⟨by simp, fun a b hd => by unfold Dn at hd; omega, fun c hc => by rw [hz] at hc; omega, fun a b a' b' hd => by unfold Dn at hd; omega, fun c => by rw [hz]; omega, fun a b hd => by unfold Dn at hd; omega⟩, fun c h1 h2 => by omega, fun a ha => by omega⟩ : NInv l 0 (List.replicate l.length 0)) (by simpa using h1)
      have hcl := cnt_le dep1
      have hdl := hi.inv.len
      refine ⟨hn.1, hn.2, hdl, fun a b ha hb => ?_, fun a b ha hb => ?_, fun a b a' b' ha hb ha' hb' he => hi.inv.p3 a b a' b' (.inl ha) hb (.inl ha') hb' he, fun c h1 h2 => ?_, hi.inv.p4, fun a ha => ?_, hi.wor⟩
      · have := hi.inv.p1 a b (.inl ha) hb; exact ⟨this.1, this.2.1⟩
      · exact (hi.inv.p1 a b (.inl ha) hb).2.2
      · obtain ⟨a, b, hd, hl, hk⟩ := hi.inv.p2 c (hi.pos c h1 h2)
        exact ⟨a, b, by unfold Dn at hd; omega, hl, hk⟩
      · by_cases e : (kid l a).length ≤ 60
        · exact e
        · have := hi.inv.p5 a ((kid l a).length - 1) (.inl ha) (by omega); omega
    · rw [if_neg hc] at h2; cases h2
  · rw [if_neg hn] at h; cases h
end Go.Proofs.Ytdiljpnfochndaa.HP
namespace Go.Proofs.Ytdiljpnfochndaa.HP
def maxL : List Int → Int
  | [] => 0
  | x :: r => r.foldl max x
def minL : List Int → Int
  | [] => 0
  | x :: r => r.foldl min x
theorem maxL_snoc (l : List Int) (z : Int) (h : l ≠ []) : maxL (l ++ [z]) = max (maxL l) z := by
  cases l with
  | nil => exact absurd rfl h
  | cons a r => simp [maxL, List.foldl_append]
theorem minL_snoc (l : List Int) (z : Int) (h : l ≠ []) : minL (l ++ [z]) = min (minL l) z := by
  cases l with
  | nil => exact absurd rfl h
  | cons a r => simp [minL, List.foldl_append]
theorem take_snoc (l : List Int) (k : Nat) (h : k < l.length) : l.take (k + 1) = l.take k ++ [l.getD k 0] := by
  rw [List.take_succ_eq_append_getElem h]
  simp [List.getD_eq_getElem?_getD, h]
theorem maxL_take (l : List Int) (k : Nat) (h0 : 0 < k) (h : k < l.length) : maxL (l.take (k + 1)) = max (maxL (l.take k)) (l.getD k 0) := by
  rw [take_snoc l k h, maxL_snoc _ _ (by intro e; rw [List.take_eq_nil_iff] at e; rcases e with e | e; omega; subst e; simp at h)]
theorem minL_take (l : List Int) (k : Nat) (h0 : 0 < k) (h : k < l.length) : minL (l.take (k + 1)) = min (minL (l.take k)) (l.getD k 0) := by
  rw [take_snoc l k h, minL_snoc _ _ (by intro e; rw [List.take_eq_nil_iff] at e; rcases e with e | e; omega; subst e; simp at h)]
theorem maxL_one (l : List Int) (h : 0 < l.length) : maxL (l.take 1) = l.getD 0 0 := by
  cases l with
  | nil => simp at h
  | cons a r => rfl
theorem minL_one (l : List Int) (h : 0 < l.length) : minL (l.take 1) = l.getD 0 0 := by
  cases l with
  | nil => simp at h
  | cons a r => rfl
def evB (dep : List Int) (i : Int) : Bool := (rd dep i).tmod 2 == 0
/-- The value of a node out of those of its children. -/
def NV (l : List Nd) (dep : List Int) (wf : Int → Int) (vs : List Int) (j : Int) : Int :=
  if leafB l j then wf j else if evB dep j then maxL ((kid l j).map (rd vs)) else minL ((kid l j).map (rd vs))
structure ValP (l : List Nd) (dep : List Int) (wf : Int → Int) (vs : List Int) : Prop where
  len : vs.length = l.length
  at_ : ∀ j : Nat, j < l.length → vs.getD j 0 = NV l dep wf vs j
theorem mem_kid {l : List Nd} {dep : List Int} (h : TF l dep) {i : Nat} (hi : i < l.length) {c : Int} (hc : c ∈ kid l i) : (i : Int) < c ∧ c < l.length := by
  obtain ⟨b, hb, rfl⟩ := List.mem_iff_getElem.1 hc
  have := h.kin i b hi hb
  simp only [k_, List.getD_eq_getElem?_getD, List.getElem?_eq_getElem hb, Option.getD_some] at this
  exact this
theorem map_rd_congr {l : List Nd} {dep : List Int} (h : TF l dep) {i : Nat} (hi : i < l.length) {vs us : List Int} (he : ∀ j : Nat, i < j → j < l.length → vs.getD j 0 = us.getD j 0) : (kid l i).map (rd vs) = (kid l i).map (rd us) := by
  apply List.map_congr_left
  intro c hc
  obtain ⟨h1, h2⟩ := mem_kid h hi hc
  exact he c.toNat (by omega) (by omega)
theorem NV_congr {l : List Nd} {dep : List Int} (h : TF l dep) {i : Nat} (hi : i < l.length) {wf : Int → Int} {vs us : List Int} (he : ∀ j : Nat, i < j → j < l.length → vs.getD j 0 = us.getD j 0) : NV l dep wf vs i = NV l dep wf us i := by
  unfold NV
  rw [map_rd_congr h hi he]
theorem ValP.uniq {l : List Nd} {dep : List Int} (h : TF l dep) {wf : Int → Int} {vs us : List Int} (hv : ValP l dep wf vs) (hu : ValP l dep wf us) : vs = us := by
  have key : ∀ d j : Nat, l.length - j = d → j < l.length → vs.getD j 0 = us.getD j 0 := by
    intro d
    induction d using Nat.strongRecOn with
    | _ d ih =>
      intro j hd hj
      rw [hv.at_ j hj, hu.at_ j hj]
      exact NV_congr h hj fun q hq hql => ih (l.length - q) (by omega) q rfl hql
  apply List.ext_getElem (by rw [hv.len, hu.len])
  intro j h1 h2
  have := key _ j rfl (by rw [← hv.len]; exact h1)
  simpa [List.getD_eq_getElem?_getD, h1, h2] using this
theorem val_set {l : List Nd} {dep : List Int} (h : TF l dep) {wf : Int → Int} {os : List Int} {q : Nat} (hq : q < l.length) (hol : os.length = l.length) {x : Int} (hx : x = NV l dep wf os q) (hval : ∀ j : Nat, q + 1 ≤ j → j < l.length → os.getD j 0 = NV l dep wf os j) :
    ∀ j : Nat, q ≤ j → j < l.length → (os.set q x).getD j 0 = NV l dep wf (os.set q x) j := by
  intro j h1 h2
  have hc : NV l dep wf (os.set q x) j = NV l dep wf os j := NV_congr h h2 fun i hi hil => getD_set_ne (by omega)
  rw [hc]
  by_cases e : q = j
  · subst e; rw [getD_set_eq (by omega)]; exact hx
  · rw [getD_set_ne e]; exact hval j (by omega) h2
theorem kid_ne {l : List Nd} {i : Int} (h : leafB l i = false) : 0 < (kid l i).length := by
  unfold leafB at h
  cases hk : kid l i with
  | nil => rw [hk] at h; simp at h
  | cons a r => simp
end Go.Proofs.Ytdiljpnfochndaa.HP
namespace Go.Proofs.Ytdiljpnfochndaa
open Go Go.RowKit Go.Proofs.Ytdiljpnfochndaa.VW
/-! ### Trees in memory -/
open Go.Proofs.Ytdiljpnfochndaa.HP (Nd kid wor leafB)
def TreeM (w : World) (v : Value) (l : List Nd) : Prop :=
  ∃ A c cvs, v = .slice A l.length c ∧ (0 < l.length → ∃ a, A = some a ∧ ∀ j, j < l.length → w.cell? (a.add (j * 2)) = some (cvs.getD j undef) ∧ w.cell? ((a.add (j * 2)).add 1) = some (.int .i64 (l.getD j ([], 0)).2)) ∧
    ∀ j, j < l.length → SlI w (List.getD cvs j undef) (l.getD j ([], 0)).1
theorem TreeM.below {w w' : World} {v : Value} {l : List Nd} (h : TreeM w v l) (k : Below w.heap.size w w') : TreeM w' v l := by
  obtain ⟨A, c, cvs, rfl, h1, h2⟩ := h
  have kk := Kp.of_below (S := fun _ => False) k
  refine ⟨A, c, cvs, rfl, fun hp => ?_, fun j hj => (h2 j hj).below k⟩
  obtain ⟨a, rfl, hc⟩ := h1 hp
  exact ⟨a, rfl, fun j hj => ⟨cell_kp kk (hc j hj).1 (fun e => e), cell_kp kk (hc j hj).2 (fun e => e)⟩⟩
theorem TreeM.kp {w w' : World} {v : Value} {l : List Nd} {S : Nat → Prop} {B : Nat} (h : TreeM w v l) (k : Kp S w w') (hb : Below B w w') (hB : B = w.heap.size) : TreeM w' v l := by subst hB; exact h.below hb
section
variable {P : Program} [hT : Tab P] {n : Nat} {ds : List Deferred} {Φ : Post} {k : List It} {ρ : E} {w : World} {all : Array Oper} {l : List Oper} {md : Option (List Oper)}
theorem Ops.rdK {o1 o2 o3 : Oper} {d1 d2 d3 t s t' : Nat} {x y : Operand} {v : Value} {i : Int} {tr : List Nd} {w0 : World}
    (h1 : o1.op = .indexAddr t x y) (hd1 : o1.dst = some d1) (hg1 : o1.guard = none) (h2 : o2.op = .fieldAddr s (.tmp d1) 0) (hd2 : o2.dst = some d2) (hg2 : o2.guard = none) (h3 : o3.op = .load t' (.tmp d2)) (hd3 : o3.dst = some d3) (hg3 : o3.guard = none)
    (ht : tyD P t = some (.slice s)) (hs : tyS P s = some 2) (hf : fieldOff P s 0 = some (0, 1)) (ha : tyAgg P t' = some false) (hx : ev ρ x = some v) (hy : ev ρ y = some (.int .i64 i)) (htr : TreeM w0 v tr) (hbel : Below w0.heap.size w0 w) (h0 : 0 ≤ i) (hi : i < tr.length)
    (hk : ∀ cv p q, SlI w0 cv (kid tr i) → Ops md P n ds all k Φ l ((d3, cv) :: (d2, q) :: (d1, p) :: ρ) w) : Ops md P n ds all k Φ (o1 :: o2 :: o3 :: l) ρ w := by
  obtain ⟨A, c, cvs, rfl, h, hc⟩ := htr
  obtain ⟨a, rfl, hcell⟩ := h (by omega)
  have h40 := hcell i.toNat (by omega)
  have kk := Kp.of_below (S := fun _ => False) hbel
  have h4 := And.intro (cell_kp kk h40.1 (fun e => e)) (cell_kp kk h40.2 (fun e => e))
  refine Ops.idx h1 hd1 hg1 ht hs hx hy h0 hi (Ops.fld h2 hd2 hg2 hf (ev_top _ _ _) ?_)
  have e0 : ∀ p : Addr, p.add 0 = p := fun p => by simp [Addr.add]
  rw [e0]
  exact Ops.ld h3 hd3 hg3 ha (ev_top _ _ _) h4.1 (hk _ _ _ (hc i.toNat (by omega)))
theorem Ops.rdW {o1 o2 o3 : Oper} {d1 d2 d3 t s t' : Nat} {x y : Operand} {v : Value} {i : Int} {tr : List Nd} {w0 : World}
    (h1 : o1.op = .indexAddr t x y) (hd1 : o1.dst = some d1) (hg1 : o1.guard = none) (h2 : o2.op = .fieldAddr s (.tmp d1) 1) (hd2 : o2.dst = some d2) (hg2 : o2.guard = none) (h3 : o3.op = .load t' (.tmp d2)) (hd3 : o3.dst = some d3) (hg3 : o3.guard = none)
    (ht : tyD P t = some (.slice s)) (hs : tyS P s = some 2) (hf : fieldOff P s 1 = some (1, 1)) (ha : tyAgg P t' = some false) (hx : ev ρ x = some v) (hy : ev ρ y = some (.int .i64 i)) (htr : TreeM w0 v tr) (hbel : Below w0.heap.size w0 w) (h0 : 0 ≤ i) (hi : i < tr.length)
    (hk : ∀ p q, Ops md P n ds all k Φ l ((d3, .int .i64 (wor tr i)) :: (d2, q) :: (d1, p) :: ρ) w) : Ops md P n ds all k Φ (o1 :: o2 :: o3 :: l) ρ w := by
  obtain ⟨A, c, cvs, rfl, h, hc⟩ := htr
  obtain ⟨a, rfl, hcell⟩ := h (by omega)
  have h40 := hcell i.toNat (by omega)
  have kk := Kp.of_below (S := fun _ => False) hbel
  have h4 := And.intro (cell_kp kk h40.1 (fun e => e)) (cell_kp kk h40.2 (fun e => e))
  exact Ops.idx h1 hd1 hg1 ht hs hx hy h0 hi (Ops.fld h2 hd2 hg2 hf (ev_top _ _ _) (Ops.ld h3 hd3 hg3 ha (ev_top _ _ _) h4.2 (hk _ _)))
theorem Ops.rdN {o1 o2 : Oper} {d1 d2 t s t' : Nat} {x y : Operand} {v : Value} {i : Int} {tr : List Nd} {w0 : World}
    (h1 : o1.op = .indexAddr t x y) (hd1 : o1.dst = some d1) (hg1 : o1.guard = none) (h2 : o2.op = .load t' (.tmp d1)) (hd2 : o2.dst = some d2) (hg2 : o2.guard = none)
    (ht : tyD P t = some (.slice s)) (hs : tyS P s = some 2) (hs' : tyS P t' = some 2) (ha : tyAgg P t' = some true) (hx : ev ρ x = some v) (hy : ev ρ y = some (.int .i64 i)) (htr : TreeM w0 v tr) (hbel : Below w0.heap.size w0 w) (h0 : 0 ≤ i) (hi : i < tr.length)
    (hk : ∀ cv p, SlI w0 cv (kid tr i) → Ops md P n ds all k Φ l ((d2, .agg #[cv, .int .i64 (wor tr i)]) :: (d1, p) :: ρ) w) : Ops md P n ds all k Φ (o1 :: o2 :: l) ρ w := by
  obtain ⟨A, c, cvs, rfl, h, hc⟩ := htr
  obtain ⟨a, rfl, hcell⟩ := h (by omega)
  have h40 := hcell i.toNat (by omega)
  have kk := Kp.of_below (S := fun _ => False) hbel
  have h4 := And.intro (cell_kp kk h40.1 (fun e => e)) (cell_kp kk h40.2 (fun e => e))
  exact Ops.idx h1 hd1 hg1 ht hs hx hy h0 hi (Ops.ld2 h2 hd2 hg2 ha hs' (ev_top _ _ _) h4.1 h4.2 (hk _ _ (hc i.toNat (by omega))))
end
/-- A game in memory: at block g; its tree and its depths. -/
structure Game (w : World) (g : Nat) (l : List Nd) (dep : List Int) : Prop where
  mk :: (out : ∃ tv dv, Blk w g #[tv, dv] 100 ∧ TreeM w tv l ∧ SlI w dv dep)
theorem Game.below {w w' : World} {g : Nat} {l : List Nd} {dep : List Int} (h : Game w g l dep) (k : Below w.heap.size w w') : Game w' g l dep := by
  obtain ⟨tv, dv, h1, h2, h3⟩ := h.out
  exact ⟨tv, dv, h1.kp (Kp.of_below (S := fun _ => False) k) (fun e => e), h2.below k, h3.below k⟩
theorem TreeM.sl {w : World} {v : Value} {l : List Nd} (h : TreeM w v l) : ∃ A c, v = .slice A l.length c := by obtain ⟨A, c, _, rfl, _⟩ := h; exact ⟨A, c, rfl⟩
theorem Sl.sl {α : Type} {enc : α → Value} {z : α} {w : World} {v : Value} {xs : List α} (h : Sl enc z w v xs) : ∃ A c, v = .slice A xs.length c := by obtain ⟨_, A, c, rfl, _⟩ := h; exact ⟨A, c, rfl⟩
attribute [local irreducible] W Ops
theorem within_c (n lo hi : Int) (w : World) : Calls Try.prog 90 #[.int .i64 n, .int .i64 lo, .int .i64 hi] w (Ret fun v w' => v = .bool (decide (lo ≤ n) && decide (n ≤ hi)) ∧ w' = w) := by
  refine calls_W (vs := [_, _, _]) Try.func90 rfl (by kernel_rfl) rfl ?_
  (repeat (first | with_reducible refine W.seq ?_ | with_reducible refine Ops.nil ?_ | with_reducible refine W.region ?_ | refine z_p (kk := ?_)))
  refine Ops.gd rfl rfl rfl rfl (fun h => ?_) (fun h => ?_)
  · (repeat (first | with_reducible refine Ops.nil ?_ | refine z_p (kk := ?_) | refine z_y (kk := ?_)))
    refine W.fret rfl ⟨?_, rfl⟩
    simp at h
    simp [resV, h]
  · (repeat (first | with_reducible refine Ops.nil ?_ | refine z_p (kk := ?_) | refine z_n (kk := ?_)))
    refine W.fret rfl ⟨?_, rfl⟩
    simp at h
    simp [resV]; omega
theorem isLeaf_c {w : World} {g : Nat} {l : List Nd} {dep : List Int} (hG : Game w g l dep) (i : Int) (h0 : 0 ≤ i) (h1 : i < l.length) :
    Calls Try.prog 74 #[.pointer (some ⟨g, 0, none⟩), .int .i64 i] w (Ret fun v w' => v = .bool (leafB l i) ∧ w' = w) := by
  obtain ⟨tv, dv, hB, hT, hD⟩ := hG.out
  refine calls_W (vs := [_, _]) Try.func74 rfl (by kernel_rfl) rfl ?_
  (repeat (first | with_reducible refine W.seq ?_ | with_reducible refine Ops.nil ?_ | with_reducible refine W.region ?_ | refine z_p (kk := ?_) | refine z_f (kk := ?_) | refine z_d (kk := ?_)))
  refine Ops.rdK rfl rfl rfl rfl rfl rfl rfl rfl rfl rfl rfl rfl rfl rfl rfl hT (Below.refl _ _) h0 h1 (fun cv p q hcv => ?_)
  obtain ⟨A, c, rfl⟩ := Sl.sl hcv
  (repeat (first | with_reducible refine Ops.nil ?_ | refine z_p (kk := ?_) | refine z_l (kk := ?_)))
  refine W.fret rfl ⟨?_, rfl⟩
  simp only [resV, leafB]
  cases kid l i <;> simp
  omega
end Go.Proofs.Ytdiljpnfochndaa
namespace Go.Proofs.Ytdiljpnfochndaa
open Go Go.RowKit Go.Proofs.Ytdiljpnfochndaa.VW
open Go.Proofs.Ytdiljpnfochndaa.HP (Nd kid wor leafB rd kidsStep nodesStep cnt gameOf)
attribute [local irreducible] W Ops
theorem Below.at_ {w0 w w' : World} {S : Nat → Prop} (h : Below w0.heap.size w0 w) (k : Kp S w w') (hs : ∀ i, S i → w0.heap.size ≤ i) : Below w0.heap.size w0 w' := Kp.then h h.size k hs
structure GCore (l : List Nd) (w0 : World) (tv dv : Value) (g : Nat) (dep : List Int) (seen : Int) (w : World) : Prop where
  bel : Below w0.heap.size w0 w
  blk : Blk w g #[tv, dv] 100
  ge : w0.heap.size ≤ g
  own : w.ownsRow 0 3 1 dv dep.length (dep.map (Value.int .i64))
  ne : ∀ k, dv.ownBlock = some k → w0.heap.size ≤ k ∧ k ≠ g
  len : dep.length = l.length
  seen_eq : seen = 1 + cnt dep
  bd : ∀ j : Nat, 0 ≤ dep.getD j 0 ∧ dep.getD j 0 ≤ j
theorem GCore.kp {l : List Nd} {w0 w w' : World} {tv dv : Value} {g : Nat} {dep : List Int} {seen : Int} {S : Nat → Prop} (h : GCore l w0 tv dv g dep seen w) (k : Kp S w w') (hs : ∀ i, S i → w.heap.size ≤ i ∨ (w0.heap.size ≤ i ∧ i ≠ g ∧ dv.ownBlock ≠ some i)) : GCore l w0 tv dv g dep seen w' := by
  refine ⟨Below.at_ h.bel k (fun i hi => ?_), h.blk.kp k (fun e => ?_), h.ge, own_kp h.own k (fun i hi e => ?_), h.ne, h.len, h.seen_eq, h.bd⟩
  · have := h.bel.size; rcases hs i hi with h | h <;> omega
  · have := h.blk.lt; rcases hs g e with h | h <;> omega
  · have := (h.own.lt i hi).2; rcases hs i e with h | h
    · omega
    · exact h.2.2 hi
set_option maxRecDepth 100000 in
theorem newGame_c {w : World} {v : Value} {l : List Nd} (hT : TreeM w v l) (hl : l.length ≤ 9223372036854775807) :
    Calls Try.prog 55 #[v] w (Ret fun r w' => Below w.heap.size w w' ∧ match gameOf l with
      | none => ∃ p, p.oneCell' = true ∧ r = .tuple #[p, .bool false]
      | some dep => ∃ g, r = .tuple #[.pointer (some ⟨g, 0, none⟩), .bool true] ∧ w.heap.size ≤ g ∧ Game w' g l dep) := by
  obtain ⟨A, c, rfl⟩ := hT.sl
  refine calls_W (vs := [_]) Try.func55 rfl (by kernel_rfl) rfl ?_
  (repeat (first | with_reducible refine W.seq ?_ | with_reducible refine Ops.nil ?_ | with_reducible refine W.region ?_ | refine z_p (kk := ?_) | refine z_l (kk := ?_)))
  refine Ops.callS rfl rfl rfl rfl rfl (within_c _ _ _ _) ?_
  (repeat (first | with_reducible refine Ops.nil ?_ | refine z_p (kk := ?_)))
  refine W.cond rfl (fun hc => ?_) (fun hc => ?_)
  · (repeat (first | with_reducible refine W.seq ?_ | with_reducible refine Ops.nil ?_ | with_reducible refine W.region ?_ | refine z_p (kk := ?_)))
    have hg : gameOf l = none := by
      simp only [gameOf]
      rw [if_neg]
      simp at hc
      omega
    refine W.fret rfl ⟨Below.refl _ _, ?_⟩
    rw [hg]
    exact ⟨_, rfl, rfl⟩
  have hn : 1 ≤ l.length ∧ l.length ≤ 60 := by simp at hc; omega
  (repeat (first | with_reducible refine W.seq ?_ | with_reducible refine W.region ?_ | refine z_p (kk := ?_) | with_reducible refine W.skip ?_))
  refine Ops.mkS rfl rfl rfl rfl rfl rfl rfl rfl rfl (by omega) (by simp; omega) (fun w1 dr hdr k1 hdl hown => ?_)
  simp only [Int.toNat_natCast] at hown ⊢
  rw [show l.length * 1 = l.length from Nat.mul_one _, madeCells_one rfl] at hown
  refine Ops.bld2 rfl rfl rfl rfl rfl rfl rfl rfl rfl ?_
  refine Ops.box rfl rfl rfl rfl (fun w2 g hM => ?_)
  (repeat (first | with_reducible refine W.seq ?_ | with_reducible refine Ops.nil ?_ | with_reducible refine W.region ?_ | refine z_p (kk := ?_) | with_reducible refine W.block ?_ | refine z_l (kk := ?_)))
  have hg0 : g = w1.heap.size := hM.r_eq
  have hk2 : Kp (fun _ => False) w w2 := (k1.trans hM.kp).mono (by simp)
  have hC0 : GCore l w (.slice A l.length c) (.slice (some ⟨dr, 0, none⟩) l.length l.length) g (List.replicate l.length 0) 1 w2 := by
    refine ⟨hk2.below (Nat.le_refl _) (fun _ _ e => e), hM.at_, by rw [hg0]; exact k1.size, ?_, ?_, by simp, ?_, ?_⟩
    · have := own_kp hown hM.kp (fun _ _ e => e)
      simpa using this
    · intro k hk
      simp [Value.ownBlock] at hk
      omega
    · have : cnt (List.replicate l.length 0) = 0 := by simp [cnt, List.countP_replicate]
      rw [this]; rfl
    · intro j
      have : (List.replicate l.length (0 : Int)).getD j 0 = 0 := by
        rw [List.getD_eq_getElem?_getD, List.getElem?_replicate]; split <;> rfl
      omega
  clear hown hk2 k1 hM
  generalize hR : nodesStep l.length 0 l (List.replicate l.length 0) = R at *
  refine W.loop (fun m ρ w3 => ∃ (i : Nat) (dep : List Int) (seen : Int), m = l.length - i ∧ i ≤ l.length ∧
      ρ = [(4, .int .i64 l.length), (5, .pointer (some ⟨g, 0, none⟩)), (6, .int .i64 seen), (21, .slice A l.length c), (22, .int .i64 l.length), (23, .int .i64 i)] ∧
      GCore l w (.slice A l.length c) (.slice (some ⟨dr, 0, none⟩) l.length l.length) g dep seen w3 ∧ nodesStep l.length i (l.drop i) dep = R)
    ⟨_, _, ⟨0, _, _, rfl, Nat.zero_le _, rfl, hC0, hR⟩, (by repeat (first | exact trivial | refine And.intro rfl ?_))⟩ ?_
  rintro m ρ w3 ⟨i, dep, seen, rfl, hi, rfl, hC, hR'⟩
  (repeat (first | with_reducible refine W.seq ?_ | with_reducible refine Ops.nil ?_ | with_reducible refine W.region ?_ | refine z_p (kk := ?_)))
  refine W.cond rfl (fun hc => ?_) (fun hc => ?_)
  · have hlt : i < l.length := by simp at hc; omega
    (repeat (first | with_reducible refine W.seq ?_ | with_reducible refine W.region ?_ | refine z_p (kk := ?_) | with_reducible refine W.skip ?_ | with_reducible refine W.block ?_))
    refine Ops.rdN rfl rfl rfl rfl rfl rfl rfl rfl rfl rfl rfl rfl hT hC.bel (by omega) (by omega) (fun cv p hcv => ?_)
    refine Ops.alloc rfl rfl rfl rfl (fun w4 x hx => ?_)
    (repeat (first | refine z_p (kk := ?_)))
    obtain ⟨Ac, cc, rfl⟩ := Sl.sl hcv
    refine Ops.st2 rfl rfl rfl rfl rfl rfl rfl rfl hx.at_ (fun w5 hu => ?_)
    (repeat (first | with_reducible refine W.seq ?_ | with_reducible refine Ops.nil ?_ | with_reducible refine W.region ?_ | refine z_p (kk := ?_)))
    have hk5 : Kp (fun j => False ∨ j = x) w3 w5 := hx.kp.trans hu.kp
    have hC5 : GCore l w (.slice A l.length c) (.slice (some ⟨dr, 0, none⟩) l.length l.length) g dep seen w5 :=
      hC.kp hk5 (fun j hj => .inl (by rcases hj with hj | hj; exact hj.elim; rw [hj, hx.r_eq]; exact Nat.le_refl _))
    have hD5 : SlI w5 (.slice (some ⟨dr, 0, none⟩) l.length l.length) dep := by
      have := own_sl (z := (0 : Int)) hC5.own
      exact this
    have hX5 := hu.blk
    refine Ops.cut (fun ρ w' => ∃ b : Bool, ρ = [(4, .int .i64 l.length), (5, .pointer (some ⟨g, 0, none⟩)), (6, .int .i64 seen), (7, .int .i64 i), (8, .pointer (some ⟨x, 0, none⟩)), (21, .slice A l.length c), (22, .int .i64 l.length), (23, .int .i64 i), (56, .bool b)] ∧ w' = w5 ∧
      (b = true ↔ (0 < (i : Int) ∧ rd dep i = 0) ∨ ¬ (-100 ≤ wor l i ∧ wor l i ≤ 100) ∨ (0 < (kid l i).length ∧ wor l i ≠ 0))) ?_ ?_
    · have hB5 := hC5.blk
      (repeat' (first | with_reducible refine Ops.nil ?_ | refine z_p (kk := ?_) | refine z_y (kk := ?_) | refine z_n (kk := ?_) | refine z_u (kk := ?_) | refine z_l (kk := ?_) | refine z_f (kk := ?_) | refine z_d (kk := ?_) | refine Ops.gdT rfl rfl rfl rfl (fun _ => ?_) (fun _ => ?_) | refine Ops.gdF rfl rfl rfl rfl (fun _ => ?_) (fun _ => ?_) | refine Ops.callS rfl rfl rfl rfl rfl (within_c _ _ _ _) ?_ | (refine Ops.rdSg (enc := Value.int .i64) (z := (0 : Int)) rfl rfl rfl rfl rfl rfl rfl rfl rfl rfl rfl rfl rfl rfl hD5 (by omega) (by have := hC5.len; omega) (fun p => ?_))))
      all_goals refine W.endl ⟨_, ⟨_, rfl, rfl, ?_⟩, (by repeat (first | exact trivial | refine And.intro rfl ?_))⟩
      all_goals clear hC hC5 hX5 hB5 hD5 hC0 hT hcv hu hx hR hR' hk5
      all_goals simp_all
      all_goals omega
    · rintro ρ w5 ⟨b, rfl, rfl, hb⟩
      have hgame : gameOf l = R.bind fun dep => if 1 + cnt dep = l.length then some dep else none := by
        simp only [gameOf]
        rw [if_pos hn, hR]
      rw [Go.Proofs.Ytdiljpnfochndaa.HP.nodes_at _ _ _ _ hlt] at hR'
      skip
      refine W.cond rfl (fun hc => ?_) (fun hc => ?_)
      · (repeat (first | with_reducible refine W.seq ?_ | with_reducible refine Ops.nil ?_ | with_reducible refine W.region ?_ | refine z_p (kk := ?_)))
        rw [if_pos (by have := hb.1 hc; exact this)] at hR'
        refine W.fret rfl ⟨hC5.bel, ?_⟩
        rw [hgame, ← hR']
        exact ⟨_, rfl, rfl⟩
      · rw [if_neg (by intro h; have := hb.2 h; rw [hc] at this; simp at this)] at hR'
        (repeat (first | with_reducible refine W.seq ?_ | with_reducible refine Ops.nil ?_ | with_reducible refine W.region ?_ | refine z_p (kk := ?_) | with_reducible refine W.skip ?_ | with_reducible refine W.block ?_ | refine z_l (kk := ?_) | refine z_f (kk := ?_) | refine z_d (kk := ?_)))
        clear hb hc
        refine W.loop (fun m ρ w6 => ∃ (j : Nat) (dep : List Int) (seen : Int), m = (kid l i).length - j ∧ j ≤ (kid l i).length ∧
            ρ = [(4, .int .i64 l.length), (5, .pointer (some ⟨g, 0, none⟩)), (6, .int .i64 seen), (7, .int .i64 i), (21, .slice A l.length c), (22, .int .i64 l.length), (23, .int .i64 i), (58, .slice Ac (kid l i).length cc), (59, .int .i64 (kid l i).length), (60, .int .i64 j)] ∧
            GCore l w (.slice A l.length c) (.slice (some ⟨dr, 0, none⟩) l.length l.length) g dep seen w6 ∧ (kidsStep l.length i ((kid l i).drop j) dep).bind (nodesStep l.length (i + 1) (l.drop (i + 1))) = R)
          ⟨_, _, ⟨0, _, _, rfl, Nat.zero_le _, rfl, hC5, hR'⟩, (by repeat (first | exact trivial | refine And.intro rfl ?_))⟩ ?_
        clear hC hC5 hX5 hD5 hC0 hu hx hR' hk5
        rintro m ρ w6 ⟨j, dep, seen, rfl, hj, rfl, hC, hR'⟩
        (repeat (first | with_reducible refine W.seq ?_ | with_reducible refine Ops.nil ?_ | with_reducible refine W.region ?_ | refine z_p (kk := ?_)))
        refine W.cond rfl (fun hc => ?_) (fun hc => ?_)
        · have hjl : j < (kid l i).length := by simp at hc; omega
          (repeat (first | with_reducible refine W.seq ?_ | with_reducible refine W.region ?_ | with_reducible refine W.skip ?_ | with_reducible refine W.block ?_))
          refine Ops.rdS (enc := Value.int .i64) (z := (0 : Int)) rfl rfl rfl rfl rfl rfl rfl rfl rfl rfl rfl (Sl.below hcv hC.bel) (by omega) (by omega) (fun p => ?_)
          simp only [Int.toNat_natCast]
          have hR2 := hR'
          rw [Go.Proofs.Ytdiljpnfochndaa.HP.kids_at _ _ _ _ _ hjl] at hR'
          generalize hcd : (kid l i).getD j 0 = cd at *
          have hD : SlI w6 (.slice (some ⟨dr, 0, none⟩) l.length l.length) dep := by
            have := own_sl (z := (0 : Int)) hC.own
            exact this
          have hB6 := hC.blk
          have hkl := Sl.len hcv
          (repeat (first | with_reducible refine W.seq ?_ | with_reducible refine Ops.nil ?_ | with_reducible refine W.region ?_ | refine z_p (kk := ?_) | refine z_a (kk := ?_)))
          refine Ops.callS rfl rfl rfl rfl rfl (within_c _ _ _ _) ?_
          refine Ops.cut (fun ρ w' => ∃ b : Bool, ρ = [(4, .int .i64 l.length), (5, .pointer (some ⟨g, 0, none⟩)), (6, .int .i64 seen), (7, .int .i64 i), (10, .int .i64 cd), (21, .slice A l.length c), (22, .int .i64 l.length), (23, .int .i64 i), (58, .slice Ac (kid l i).length cc), (59, .int .i64 (kid l i).length), (60, .int .i64 j), (80, .bool b)] ∧ w' = w6 ∧
            (b = false ↔ (i : Int) + 1 ≤ cd ∧ cd ≤ l.length - 1 ∧ rd dep cd ≤ 0)) ?_ ?_
          · (repeat' (first | with_reducible refine Ops.nil ?_ | refine z_p (kk := ?_) | refine z_y (kk := ?_) | refine z_n (kk := ?_) | refine z_f (kk := ?_) | refine z_d (kk := ?_) | refine Ops.gdF rfl rfl rfl rfl (fun _ => ?_) (fun _ => ?_) | (refine Ops.rdSg (enc := Value.int .i64) (z := (0 : Int)) rfl rfl rfl rfl rfl rfl rfl rfl rfl rfl rfl rfl rfl rfl hD (by rename_i hh; simp at hh; omega) (by rename_i hh; simp at hh; have := hC.len; omega) (fun p => ?_))))
            all_goals refine W.endl ⟨_, ⟨_, rfl, rfl, ?_⟩, (by repeat (first | exact trivial | refine And.intro rfl ?_))⟩
            · rename_i hh
              clear hC hcv hB6 hD hR' hR2 hT
              simp at hh
              simp
              omega
            · rename_i hh
              clear hC hcv hB6 hD hR' hR2 hT
              simp at hh
              simp [rd]
              omega
          · rintro ρ w6 ⟨b, rfl, rfl, hb⟩
            skip
            refine W.cond rfl (fun hc => ?_) (fun hc => ?_)
            · (repeat (first | with_reducible refine W.seq ?_ | with_reducible refine Ops.nil ?_ | with_reducible refine W.region ?_ | refine z_p (kk := ?_)))
              rw [if_neg (by intro h; have := hb.2 h; rw [hc] at this; simp at this)] at hR'
              refine W.fret rfl ⟨hC.bel, ?_⟩
              rw [hgame, ← hR']
              exact ⟨_, rfl, rfl⟩
            · have hcd3 := hb.1 hc
              rw [if_pos hcd3] at hR'
              (repeat (first | with_reducible refine W.seq ?_ | with_reducible refine W.skip ?_))
              refine W.tail' 13 rfl (by kernel_rfl) (fun w7 k7 _ => ?_)
              have hC7 := hC.kp k7 (fun _ e => e.elim)
              have hD7 := Sl.kp hD k7 (fun _ _ e => e)
              have hB7 := hC7.blk
              have hbi := hC.bd i
              have hlen := hC.len
              (repeat (first | refine z_p (kk := ?_) | refine z_f (kk := ?_) | refine z_d (kk := ?_)))
              refine Ops.rdS (enc := Value.int .i64) (z := (0 : Int)) rfl rfl rfl rfl rfl rfl rfl rfl rfl rfl rfl hD7 (by omega) (by omega) (fun p => ?_)
              simp only [Int.toNat_natCast]
              (repeat (first | refine z_a (kk := ?_)))
              refine Ops.nilS rfl ?_
              refine Ops.wrS rfl rfl rfl rfl rfl rfl rfl rfl rfl rfl rfl rfl (by simp) rfl hC7.own (by omega) (by omega) (fun w8 p hown k8 _ => ?_)
              have hcnt : cnt (dep.set cd.toNat (dep.getD i 0 + 1)) = cnt dep + 1 := Go.Proofs.Ytdiljpnfochndaa.HP.cnt_set (by omega) hcd3.2.2 (by omega)
              have hcle := Go.Proofs.Ytdiljpnfochndaa.HP.cnt_le dep
              have hse := hC.seen_eq
              have hC8 : GCore l w (.slice A l.length c) (.slice (some ⟨dr, 0, none⟩) l.length l.length) g (dep.set cd.toNat (dep.getD i 0 + 1)) (seen + 1) w8 := by
                refine ⟨Below.at_ hC7.bel k8 (fun i hi => (hC.ne i hi).1), hC7.blk.kp k8 (fun e => (hC.ne g e).2 rfl), hC.ge, ?_, hC.ne, by simpa using hC.len, by rw [hcnt]; omega, ?_⟩
                · rw [List.map_set, List.length_set]; exact hown
                · intro q
                  have hq := hC.bd q
                  by_cases e : cd.toNat = q
                  · subst e
                    rw [List.getD_eq_getElem?_getD, List.getElem?_set_self (by omega)]
                    simp only [Option.getD_some]
                    omega
                  · rw [List.getD_eq_getElem?_getD, List.getElem?_set_ne e, ← List.getD_eq_getElem?_getD]; exact hq
              (repeat (first | with_reducible refine Ops.nil ?_ | with_reducible refine W.region ?_ | refine z_p (kk := ?_) | refine z_a (kk := ?_) | with_reducible refine W.endb ?_))
              refine W.endl ⟨_, _, ⟨⟨j + 1, _, _, rfl, by omega, rfl, hC8, hR'⟩, by omega⟩, (by repeat (first | exact trivial | refine And.intro rfl ?_))⟩
        · have hjl : j = (kid l i).length := by simp at hc; omega
          subst hjl
          rw [List.drop_length] at hR'
          (repeat (first | with_reducible refine Ops.nil ?_ | with_reducible refine W.region ?_ | refine z_p (kk := ?_) | refine z_a (kk := ?_) | with_reducible refine W.endb ?_ | refine W.exit rfl ?_))
          refine W.endl ⟨_, _, ⟨⟨i + 1, _, _, rfl, by omega, rfl, hC, hR'⟩, by omega⟩, (by repeat (first | exact trivial | refine And.intro rfl ?_))⟩
  · have hil : i = l.length := by simp at hc; omega
    subst hil
    rw [List.drop_length] at hR'
    simp only [nodesStep] at hR'
    (repeat (first | with_reducible refine W.seq ?_ | with_reducible refine Ops.nil ?_ | with_reducible refine W.region ?_ | refine z_p (kk := ?_) | refine W.exit rfl ?_))
    have hgame : gameOf l = R.bind fun dep => if 1 + cnt dep = l.length then some dep else none := by
      simp only [gameOf]
      rw [if_pos hn, hR]
    rw [← hR'] at hgame
    simp only [Option.bind_some] at hgame
    have hse := hC.seen_eq
    refine W.fret rfl ⟨hC.bel, ?_⟩
    rw [hgame]
    by_cases e : 1 + cnt dep = l.length
    · rw [if_pos e]
      have : (seen == (l.length : Int)) = true := by simp; omega
      refine ⟨g, by simp only [resV]; rw [this], hC.ge, ⟨⟨_, _, hC.blk, hT.below hC.bel, ?_⟩⟩⟩
      have := own_sl (z := (0 : Int)) hC.own
      exact this
    · rw [if_neg e]
      have : (seen == (l.length : Int)) = false := by simp; omega
      exact ⟨_, rfl, by simp only [resV]; rw [this]⟩
end Go.Proofs.Ytdiljpnfochndaa
