/- A list of operations of the model, in the text's order, does what the abstract evaluator computes. A region that draws its order does what the abstract evaluator computes in the text's order, where no open order matters. A region that draws its order: the text's run, and what of it any other order meets; no condition. A region that draws its order: one operation, whenever it is ready, keeps what the text's run tells; no condition. A region that draws its order: each ready operation is carried out, in whatever order; no condition. A region that draws its order does what the abstract evaluator computes; no condition. The model's calls do what the abstract evaluator computes; no condition. More rounds tell the same; no condition. -/
import Derived.Test.YtiklnoodcgippaaGreatAea
set_option linter.unusedSimpArgs false
set_option linter.unusedVariables false
set_option linter.unusedSectionVars false
set_option linter.unusedVariables false
namespace Go.AE
open Go.RowKit (Below)

def compO (P : Program) (nt : Nat) (ops : Array Oper) (o : Oper) : Option MO :=
  match compOp P nt o.op with
  | none => none
  | some m =>
    grd (match o.dst with | none => true | some d => d < nt)
    (match o.guard with
    | none => some ⟨o.dst, m, none⟩
    | some (j, b) => (match ops[j]? with
      | some g => (match g.dst with | some d => grd (d < nt) (some ⟨o.dst, m, some (d, b)⟩) | none => none)
      | none => none))

/-- What a call of function f comes to. -/
def CallSem (P : Program) (f : FuncId) (args : Array Value) (w : World) (R : Value → World → Prop) : Prop :=
  ((callFunc f args).run P w = .ok (.enter f args) w ∧ Calls P f args w fun e w' => ∃ v, e = .returned v ∧ R v w') ∨
  ∃ v w', (callFunc f args).run P w = .ok (.value v) w' ∧ R v w'

def CallOk (P : Program) (call : CallF) : Prop := ∀ f args H v H', call f args H = some (v, H') →
  ∀ (C : Ctx) (ι : Inj) (w : World) (args' : List Value) (top : Nat), VRL ι args args' → Sim C ι H w → Un top ι H → H'.size ≤ top →
    CallSem P f args'.toArray w fun v' w' => ∃ ι', VR ι' v v' ∧ Step C ι H w ι' H' w'

/-! ### nothing shrinks -/
structure Gr (H H' : AH) : Prop where
  size : H.size ≤ H'.size
  lo : H'.lo = H.lo
  keep : ∀ i, i < H.lo → i < H.size → H'.get i = H.get i
theorem Gr.refl (H : AH) : Gr H H := ⟨Nat.le_refl _, rfl, fun _ _ _ => rfl⟩
theorem Gr.trans {A B D : AH} (h : Gr A B) (k : Gr B D) : Gr A D :=
  ⟨Nat.le_trans h.size k.size, k.lo.trans h.lo, fun i a b => (k.keep i (by rw [h.lo]; exact a) (Nat.lt_of_lt_of_le b h.size)).trans (h.keep i a b)⟩
theorem Gr.alloc (H : AH) (b : Blk) : Gr H (H.alloc b) := ⟨by simp, rfl, fun i _ h => by rw [AH.get_alloc, if_neg (by omega)]⟩
theorem Gr.put (H : AH) (i : Nat) (b : Option Blk) (h : H.lo ≤ i) : Gr H (H.put i b) := ⟨by simp, rfl, fun j h1 _ => by rw [AH.get_put, if_neg (by omega)]⟩
theorem Gr.write {H H' : AH} {a : Addr} {vs : List Value} (h : H.write a vs = some H') : Gr H H' := by
  unfold AH.write at h
  split at h
  · split at h
    · split at h
      · rename_i hc; cases h; exact .put _ _ _ hc.1
      · cases h
    · cases h
  · cases h

theorem aop_gr {m : MOp} {e : Operand → Value} {H H' : AH} {v : Value} (h : aop m e H = some (v, H')) : Gr H H' := by
  cases m <;> simp only [aop] at h
  case append =>
    unfold opAppend at h
    split at h
    · split at h
      · cases h
      · split at h
        · split at h
          · split at h
            · cases h; exact .refl _
            · cases h
          · split at h
            · rename_i H1 hw; cases h; exact .write hw
            · cases h
        · split at h
          · split at h
            · split at h
              · cases h; exact .alloc _ _
              · cases h
            · split at h
              · split at h
                · rename_i hc; cases h; exact (Gr.put _ _ _ hc.1).trans (.alloc _ _)
                · cases h
              · cases h
            · cases h
          · cases h
    · cases h
  case copy =>
    unfold opCopy at h
    split at h
    · split at h
      · cases h
      · split at h
        · cases h; exact .refl _
        · split at h
          · rename_i H1 hw; cases h; exact .write hw
          · cases h
    · cases h
  case makeSlice =>
    unfold opMakeSlice at h
    split at h
    · split at h
      · cases h; exact .alloc _ _
      · cases h
    · cases h
  case store =>
    split at h
    · rename_i H1 hst
      cases h
      unfold opStore at hst
      split at hst
      · split at hst
        · exact .write hst
        · cases hst
      · cases hst
    · cases h
  all_goals first
    | (cases h; exact .refl _)
    | (cases h; exact .alloc _ _)
    | (repeat' split at h) <;> first | (cases h; done) | (cases h; exact .refl _) | (cases h; exact .alloc _ _)

def CallGr (call : CallF) : Prop := ∀ f args H v H', call f args H = some (v, H') → Gr H H'

theorem stepO_gr {call : CallF} (hg : CallGr call) {mo : MO} {t t' : T} {H H' : AH} (h : stepO call mo t H = some (t', H')) : Gr H H' := by
  unfold stepO at h
  split at h
  · split at h
    · rename_i v H1 hv
      cases h
      unfold aopc at hv
      split at hv
      · split at hv
        · exact hg _ _ _ _ _ hv
        · cases hv
      · exact aop_gr hv
    · cases h
  · cases h; exact .refl _

theorem runOps_gr {call : CallF} (hg : CallGr call) : ∀ {l : List MO} {t t' : T} {H H' : AH}, runOps call l t H = some (t', H') → Gr H H' := by
  intro l
  induction l with
  | nil => intro t t' H H' h; cases h; exact .refl _
  | cons o l ih =>
    intro t t' H H' h
    simp only [runOps] at h
    split at h
    · rename_i t1 H1 h1; exact (stepO_gr hg h1).trans (ih h)
    · cases h

section
variable {C : Ctx} {ι : Inj} {H H' : AH} {w : World} {P : Program} {nt : Nat} {ops : Array Oper} {call : CallF}

theorem wanted_vr {o : Oper} {mo : MO} (hc : compO P nt ops o = some mo) {t : T} {a : Act} (htr : TR nt ι t a) : Region.wanted o (yielded ops a.tmps) = wantedA mo.guard t := by
  unfold compO at hc
  split at hc
  · cases hc
  · obtain ⟨_, hc⟩ := grd_some hc
    split at hc
    · rename_i hg
      cases hc
      simp [Region.wanted, hg, wantedA]
    · rename_i j b hg
      split at hc
      · rename_i g hgj
        split at hc
        · rename_i d hd
          obtain ⟨hlt, hc⟩ := grd_some hc
          cases hc
          have hlt : d < nt := of_decide_eq_true hlt
          have hv := htr.2 d hlt
          have hsz : a.tmps.size = nt := htr.1.1
          have hget : a.tmps[d]? = some (a.tmps.getD d undef) := by
            have hlt2 : d < a.tmps.size := by rw [hsz]; exact hlt
            rw [Array.getElem?_eq_getElem hlt2]
            simp [Array.getD, hlt2]
          simp only [Region.wanted, hg, yielded, hgj, Option.bind_some, hd, wantedA, hget]
          generalize t d = v at hv
          generalize a.tmps.getD d undef = v' at hv
          cases hv <;> first | rfl | (rename_i c; cases b <;> cases c <;> rfl)
        · cases hc
      · cases hc

theorem compO_dst {o : Oper} {mo : MO} (hc : compO P nt ops o = some mo) : mo.dst = o.dst ∧ compOp P nt o.op = some mo.op := by
  unfold compO at hc
  split at hc
  · cases hc
  · rename_i m hm
    obtain ⟨_, hc⟩ := grd_some hc
    split at hc
    · cases hc; exact ⟨rfl, hm⟩
    · split at hc
      · split at hc
        · obtain ⟨_, hc⟩ := grd_some hc
          cases hc; exact ⟨rfl, hm⟩
        · cases hc
      · cases hc

theorem vrl_map {t : T} {a : Act} (htr : TR nt ι t a) {l : List Operand} (h : l.all (okX nt) = true) : VRL ι (l.map (ev t)) (l.map a.eval) :=
  VRL.map _ _ _ fun x hx => htr.ev (List.all_eq_true.1 h x hx)

theorem grd_call {b : Bool} {x : Option MOp} {y : MOp} (h : grd b x = some y) (hx : ∀ z, x = some z → z.isCall = false) : y.isCall = false := hx y (grd_some h).2

theorem compOp_call {op : Op} {f : Operand} {args : List Operand} (h : compOp P nt op = some (.call f args)) :
    ∃ c : Call, op = .call c ∧ c.callee = .value f ∧ c.args.toList = args ∧ okX nt f = true ∧ c.args.all (okX nt) = true := by
  have no : ∀ {α : Prop}, MOp.isCall (.call f args) = false → α := by intro α h; simp [MOp.isCall] at h
  cases op with
  | call c =>
    obtain ⟨hx, hop1⟩ := grd_some h
    obtain ⟨callee, cargs, tys⟩ := c
    simp only at hx hop1
    split at hop1
    · obtain ⟨hf', hop1⟩ := grd_some hop1
      cases hop1
      exact ⟨_, rfl, rfl, rfl, hf', hx⟩
    all_goals (repeat' (split at hop1)) <;> cases hop1
  | slice t x lo hi mx =>
    cases mx with
    | some _ => simp [compOp] at h
    | none =>
      refine no (grd_call h fun z hz => ?_)
      revert hz
      repeat' split
      all_goals (intro hz; first | (cases hz; done) | (cases hz; rfl))
  | alloc t =>
    simp only [compOp] at h
    split at h
    · split at h
      · exact no (grd_call h fun z hz => by cases hz; rfl)
      · cases h
    · cases h
  | _ =>
    first
      | (simp [compOp] at h; done)
      | (refine no (grd_call h fun z hz => ?_)
         revert hz
         repeat' split
         all_goals first
           | (intro hz; cases hz; rfl)
           | (intro hz; cases hz; done)
           | (intro hz; exact grd_call hz fun z hz => by cases hz; rfl))

/-- One operation. -/
theorem stepO_sound (hcall : CallOk P call) {o : Oper} {mo : MO} (hc : compO P nt ops o = some mo) {t t' : T} {a : Act} (htr : TR nt ι t a) (hs : Sim C ι H w) {top : Nat} (hu : Un top ι H)
    (ho : stepO call mo t H = some (t', H')) (htop : H'.size ≤ top) {Q : Exit → Act → World → Prop} {K : Act → World → Prop} (hK : ∀ a' w' ι', TR nt ι' t' a' → Step C ι H w ι' H' w' → K a' w') :
    if Region.wanted o (yielded ops a.tmps) then o.wp P a w K Q else K (a.put o.dst undef) w := by
  rw [wanted_vr hc htr]
  obtain ⟨hd, hop⟩ := compO_dst hc
  unfold stepO at ho
  split at ho
  · rename_i hw
    rw [if_pos hw]
    have fin : ∀ {v v' : Value} {w' : World} {ι' : Inj}, t' = t.upO mo.dst v → Step C ι H w ι' H' w' → VR ι' v v' → K (a.put o.dst v') w' := by
      intro v v' w' ι' e st hv
      refine hK _ _ ι' ?_ st
      rw [e, hd]
      exact (htr.mono st.sub).put hv _
    cases hcl : mo.op.isCall with
    | false =>
      have haop : aopc call mo.op (ev t) H = aop mo.op (ev t) H := by
        cases hmo : mo.op <;> simp [hmo, MOp.isCall] at hcl <;> rfl
      rw [haop] at ho
      split at ho
      · rename_i v H1 hv
        simp only [Option.some.injEq, Prod.mk.injEq] at ho
        obtain ⟨rfl, rfl⟩ := ho
        obtain ⟨v', w', ι', h1, h2, h3⟩ := op_sound hop hcl htr hs hu hv htop
        unfold Oper.wp
        rcases h1 with h1 | ⟨h1, rfl⟩
        · rw [h1]; exact fin rfl h2 h3
        · rw [h1]; exact fin rfl h2 h3
      · cases ho
    | true =>
      cases hmo : mo.op <;> simp [hmo, MOp.isCall] at hcl
      rename_i f args
      rw [hmo] at ho hop
      simp only [aopc] at ho
      split at ho
      · rename_i v H1 hv
        simp only [Option.some.injEq, Prod.mk.injEq] at ho
        obtain ⟨rfl, rfl⟩ := ho
        split at hv
        · rename_i g first captured hf
          -- the operation is a call of a value
          have hcall' : ∃ c : Call, o.op = .call c ∧ c.callee = .value f ∧ c.args.toList = args ∧ okX nt f = true ∧ c.args.all (okX nt) = true := by
            exact compOp_call hop
          obtain ⟨c, hc1, hc2, hc3, hc4, hc5⟩ := hcall'
          have hfv := htr.ev hc4
          rw [hf] at hfv
          generalize hfe : a.eval f = fv at hfv
          cases hfv with
          | func _ x1 x2 x3 x4 =>
            rename_i first' captured'
            have hargs : VRL ι (first.toList ++ args.map (ev t) ++ captured.toList) (first'.toList ++ args.map a.eval ++ captured'.toList) := by
              refine (VRL.append (VRA.toList ⟨x1, x2⟩) (vrl_map htr ?_)).append (VRA.toList ⟨x3, x4⟩)
              rw [← hc3, Array.all_toList]; exact hc5
            have hsem := hcall g _ H _ _ hv C ι w _ top hargs hs hu htop
            have hexec : execOp a.eval o = callFunc g (first'.toList ++ args.map a.eval ++ captured'.toList).toArray := by
              have : (first'.toList ++ args.map a.eval ++ captured'.toList).toArray = first' ++ c.args.map a.eval ++ captured' := by
                rw [← hc3]; simp
              rw [this]
              simp only [execOp, hc1, resolve, hc2, hfe, Deferred.ofValue]
              rfl
            unfold Oper.wp
            rw [hexec]
            rcases hsem with ⟨h1, h2⟩ | ⟨v', w', h1, ι', h2, h3⟩
            · rw [h1]
              refine Calls.mono h2 ?_
              rintro e w' ⟨v', rfl, ι', hv', hst⟩
              exact fin rfl hst hv'
            · rw [h1]
              exact fin rfl h3 h2
        · cases hv
      · cases ho
  · rename_i hw
    simp only [Option.some.injEq, Prod.mk.injEq] at ho
    obtain ⟨rfl, rfl⟩ := ho
    rw [if_neg hw, ← hd]
    exact hK _ _ ι (htr.put (.undef ι) _) (.refl hs)

theorem runOps_sound (hcall : CallOk P call) (hg : CallGr call) {Q : Exit → Act → World → Prop} : ∀ (l : List Oper) (ml : List MO), l.mapM (compO P nt ops) = some ml →
    ∀ {ι : Inj} {H H' : AH} {w : World} {t t' : T} {a : Act} {top : Nat}, TR nt ι t a → Sim C ι H w → Un top ι H → runOps call ml t H = some (t', H') → H'.size ≤ top →
      (∀ a' w' ι', TR nt ι' t' a' → Step C ι H w ι' H' w' → Q .normal a' w') → wpList P ops Q l a w := by
  intro l
  induction l with
  | nil =>
    intro ml hm ι H H' w t t' a top htr hs hu ho htop hQ
    simp at hm; subst hm
    simp only [runOps, Option.some.injEq, Prod.mk.injEq] at ho
    obtain ⟨rfl, rfl⟩ := ho
    exact hQ a w ι htr (.refl hs)
  | cons o l ih =>
    intro ml hm ι H H' w t t' a top htr hs hu ho htop hQ
    simp only [List.mapM_cons, Option.bind_eq_bind, Option.pure_def] at hm
    cases hc : compO P nt ops o with
    | none => simp [hc] at hm
    | some mo =>
      cases hr : l.mapM (compO P nt ops) with
      | none => simp [hc, hr] at hm
      | some mr =>
        simp [hc, hr] at hm
        subst hm
        simp only [runOps] at ho
        cases hst : stepO call mo t H with
        | none => simp [hst] at ho
        | some r =>
          obtain ⟨t1, H1⟩ := r
          simp only [hst] at ho
          have hle : H1.size ≤ H'.size := (runOps_gr hg ho).size
          refine wpList_step fun K hK => ?_
          exact stepO_sound hcall hc htr hs hu hst (by omega) fun a' w' ι' htr' st =>
            hK _ _ (ih mr hr htr' st.sim (st.un hu) ho htop fun a2 w2 ι2 h1 h2 => hQ a2 w2 ι2 h1 (st.trans h2 hu htop))

end
end Go.AE
set_option linter.unusedVariables false
namespace Go.AE
open Go.RowKit (Below)

def MOp.cls : MOp → Nat
  | .load _ _ | .sliceSl _ _ _ _ | .bytesToStr _ => 1
  | .alloc _ | .box _ | .buildSlice _ _ _ _ | .makeSlice _ _ _ _ _ => 2
  | .store _ _ _ | .append _ _ _ _ | .copy _ _ _ | .call _ _ => 3
  | _ => 0

def tmpsOf (l : List Operand) : List Nat := l.filterMap fun | .tmp i => some i | _ => none

def MOp.uses : MOp → List Operand
  | .mv x | .box x | .load _ x | .nilCheck x | .un _ x | .conv _ x | .bytesToStr x | .fieldAddr _ x | .field _ _ x | .extract x _ | .len _ x => [x]
  | .pick a b c => [a, b, c]
  | .alloc _ => []
  | .build _ _ l | .buildSlice _ _ _ l => l.map (·.2)
  | .store _ a b | .bin _ _ _ a b | .makeSlice _ _ _ a b | .indexAddr _ a b | .indexStr a b | .append _ _ a b | .copy _ a b | .min2 a b | .max2 a b => [a, b]
  | .mkFunc _ a b => a ++ b
  | .sliceStr x l h | .sliceSl _ x l h => x :: (l.toList ++ h.toList)
  | .call f l => f :: l

def MO.reads (o : MO) : List Nat := tmpsOf o.op.uses ++ (match o.guard with | some (j, _) => [j] | none => [])

theorem ev_congr {t t' : T} {l : List Operand} (h : ∀ i ∈ tmpsOf l, t i = t' i) : ∀ x ∈ l, ev t x = ev t' x := by
  intro x hx
  cases x with
  | tmp i => exact h i (List.mem_filterMap.2 ⟨_, hx, rfl⟩)
  | const v => rfl
  | func f => rfl
  | global g => rfl

theorem map_congr {e e' : Operand → Value} {l : List Operand} (h : ∀ x ∈ l, e x = e' x) : l.map e = l.map e' := List.map_congr_left h
theorem omap_congr {e e' : Operand → Value} {x : Option Operand} (h : ∀ y ∈ x.toList, e y = e' y) : x.map e = x.map e' := by
  cases x with
  | none => rfl
  | some y => simp [h y (by simp)]
theorem pmap_congr {e e' : Operand → Value} {l : List (Nat × Operand)} (h : ∀ x ∈ l.map (·.2), e x = e' x) : (l.map fun p => (p.1, e p.2)) = l.map fun p => (p.1, e' p.2) :=
  List.map_congr_left fun p hp => by rw [h p.2 (List.mem_map.2 ⟨p, hp, rfl⟩)]

theorem aopc_congr {call : CallF} {m : MOp} {e e' : Operand → Value} (h : ∀ x ∈ m.uses, e x = e' x) (H : AH) : aopc call m e H = aopc call m e' H := by
  cases m with
  | call f l =>
    have h1 := h f (by simp [MOp.uses])
    have h2 : l.map e = l.map e' := map_congr fun x hx => h x (by simp [MOp.uses, hx])
    simp only [aopc, h1, h2]
  | sliceStr x l h' =>
    simp only [MOp.uses, List.mem_cons, List.mem_append] at h
    simp only [aopc, aop, h x (.inl rfl), omap_congr (x := l) fun y hy => h y (.inr (.inl hy)), omap_congr (x := h') fun y hy => h y (.inr (.inr hy))]
  | sliceSl es x l h' =>
    simp only [MOp.uses, List.mem_cons, List.mem_append] at h
    simp only [aopc, aop, h x (.inl rfl), omap_congr (x := l) fun y hy => h y (.inr (.inl hy)), omap_congr (x := h') fun y hy => h y (.inr (.inr hy))]
  | build z ps l => simp only [aopc, aop, pmap_congr h]
  | buildSlice es n z l => simp only [aopc, aop, pmap_congr h]
  | mkFunc fn a b =>
    simp only [MOp.uses, List.mem_append] at h
    simp only [aopc, aop, map_congr fun x hx => h x (.inl hx), map_congr fun x hx => h x (.inr hx)]
  | alloc z => rfl
  | _ => simp [MOp.uses] at h; simp [aopc, aop, h]

theorem readsBlk_congr {m : MOp} {e e' : Operand → Value} (h : ∀ x ∈ m.uses, e x = e' x) (H : AH) : readsBlk m e H = readsBlk m e' H := by
  cases m <;> simp [MOp.uses] at h <;> simp [readsBlk, h]

theorem stepO_congr {call : CallF} {mo : MO} {t t' : T} {H H1 : AH} {t1 : T} (h : ∀ i ∈ mo.reads, t i = t' i) (hs : stepO call mo t H = some (t1, H1)) :
    ∃ v, t1 = t.upO mo.dst v ∧ stepO call mo t' H = some (t'.upO mo.dst v, H1) := by
  have hw : wantedA mo.guard t = wantedA mo.guard t' := by
    unfold wantedA
    split
    · rfl
    · rename_i j b hg
      rw [h j (by simp [MO.reads, hg])]
  have he : ∀ x ∈ mo.op.uses, ev t x = ev t' x := ev_congr fun i hi => h i (by simp [MO.reads, hi])
  unfold stepO at hs ⊢
  rw [← hw, ← aopc_congr he]
  split at hs
  · rename_i hww
    rw [if_pos hww]
    split at hs
    · rename_i v H2 hv
      cases hs
      exact ⟨v, rfl, rfl⟩
    · cases hs
  · rename_i hww
    rw [if_neg hww]
    cases hs
    exact ⟨undef, rfl, rfl⟩

/-! ### how much of a heap an operation sees -/

theorem pure_any {call : CallF} {m : MOp} (hc : m.cls = 0) {e : Operand → Value} {H H' : AH} {v : Value} (h : aopc call m e H = some (v, H')) (K : AH) : H' = H ∧ aopc call m e K = some (v, K) := by
  cases m <;> simp [MOp.cls] at hc <;> simp only [aopc, aop] at h ⊢
  all_goals first
    | (cases h; exact ⟨rfl, rfl⟩)
    | ((repeat' split at h) <;> first | (cases h; done) | (cases h; exact ⟨rfl, rfl⟩) | (cases h; exact ⟨rfl, by simp [*]⟩))

theorem readN_get {H K : AH} {a : Addr} (h : K.get a.block = H.get a.block) (n : Nat) : K.readN a n = H.readN a n := by
  obtain ⟨i, o, s⟩ := a
  cases s <;> simp only [AH.readN]
  simp only at h
  rw [h]
theorem read1_get {H K : AH} {a : Addr} (h : K.get a.block = H.get a.block) : K.read1 a = H.read1 a := by
  obtain ⟨i, o, s⟩ := a
  cases s <;> simp only [AH.read1]
  simp only at h
  rw [h]

theorem opLoad_get {g : Option Nat} {p : Value} {H K : AH} (h : ∀ a, p = .pointer (some a) → K.get a.block = H.get a.block) : opLoad g p K = opLoad g p H := by
  unfold opLoad
  split
  · rename_i a
    have := h a rfl
    cases g <;> simp [read1_get this, readN_get this]
  · rfl

theorem load_any {call : CallF} {m : MOp} (hc : m.cls = 1) {e : Operand → Value} {H H' : AH} {v : Value} (h : aopc call m e H = some (v, H')) (K : AH)
    (hk : ∀ b, readsBlk m e H = some b → K.get b = H.get b) : H' = H ∧ aopc call m e K = some (v, K) := by
  cases m <;> simp [MOp.cls] at hc <;> simp only [aopc, aop] at h ⊢
  · rename_i g a
    rw [opLoad_get (H := H) fun p hp => hk p.block (by simp [readsBlk, hp])]
    split at h
    · cases h; exact ⟨rfl, rfl⟩
    · cases h
  · rename_i x
    have : opBytesToStr (e x) K = opBytesToStr (e x) H := by
      unfold opBytesToStr
      split
      · rfl
      · rename_i a n c hx
        rw [readN_get (hk a.block (by simp [readsBlk, hx]))]
      · rfl
    rw [this]
    split at h
    · cases h; exact ⟨rfl, rfl⟩
    · cases h
  · rename_i es x lo hi
    have : opSliceSl es (e x) (lo.map e) (hi.map e) K = opSliceSl es (e x) (lo.map e) (hi.map e) H := by
      unfold opSliceSl
      split
      · rename_i a n c hx
        split
        · split
          · split
            · rfl
            · rename_i i o
              rw [hk i (by simp [readsBlk, hx])]
            · rfl
          · rfl
        · rfl
      · rfl
    rw [this]
    split at h
    · cases h; exact ⟨rfl, rfl⟩
    · cases h

theorem alloc_any {call : CallF} {m : MOp} (hc : m.cls = 2) {e : Operand → Value} {H H' : AH} {v : Value} (h : aopc call m e H = some (v, H')) :
    ∃ blk, H' = H.alloc blk ∧ ∀ K : AH, K.size = H.size → aopc call m e K = some (v, K.alloc blk) := by
  cases m <;> simp [MOp.cls] at hc <;> simp only [aopc, aop, opNew, opMakeSlice] at h ⊢
  · cases h; exact ⟨_, rfl, fun K hK => by rw [hK]⟩
  · cases h; exact ⟨_, rfl, fun K hK => by rw [hK]⟩
  · split at h
    · cases h; exact ⟨_, rfl, fun K hK => by rw [hK]⟩
    · cases h
  · split at h
    · split at h
      · rename_i hb; cases h; exact ⟨_, rfl, fun K hK => by rw [if_pos hb, hK]⟩
      · cases h
    · cases h

/-! ### what is known of a region's edges -/
def preds (ops : Array Oper) (j : Nat) : List Nat := match ops[j]? with | some o => (o.after.toList.filter (Region.binds .any)).map (·.on) | none => []
def anc (A : List Nat) (j i : Nat) : Bool := (A.getD j 0).testBit i
def mkAnc (ops : Array Oper) : List Nat :=
  (List.range ops.size).foldl (fun A j => A ++ [(preds ops j).foldl (fun m p => m ||| (1 <<< p) ||| A.getD p 0) 0]) []
def ancOk (ops : Array Oper) (A : List Nat) : Bool :=
  (List.range ops.size).all fun j => (preds ops j).all (· < j) && (List.range ops.size).all fun i =>
    !anc A j i || (i < j && ((preds ops j).contains i || (preds ops j).any fun p => anc A p i))
def dstOf (ml : List MO) (i : Nat) : Option Nat := match ml[i]? with | some o => o.dst | none => none
def clsOf (ml : List MO) (i : Nat) : Nat := match ml[i]? with | some o => o.op.cls | none => 0
def readsOf (ml : List MO) (i : Nat) : List Nat := match ml[i]? with | some o => o.reads | none => []
def dataOk (ml : List MO) (A : List Nat) : Bool :=
  (List.range ml.length).all fun i => match dstOf ml i with
    | none => true
    | some d => (List.range ml.length).all fun j => i == j || (dstOf ml j != some d && (!(readsOf ml j).contains d || (i < j && anc A j i) || (j < i && anc A i j)))
def chainOk (ml : List MO) (A : List Nat) : Bool :=
  (List.range ml.length).all fun j => (List.range ml.length).all fun i => !(i < j && clsOf ml i == 3 && clsOf ml j == 3) || anc A j i
def pairsOf (ml : List MO) (A : List Nat) : List (Nat × Nat) :=
  (List.range ml.length).flatMap fun i => if clsOf ml i == 1 || clsOf ml i == 2 then
    (List.range ml.length).filterMap fun e => if clsOf ml e == 3 && !anc A i e && !anc A e i then some (i, e) else none else []

theorem mem_ready {ops : Array Oper} {L : Array Bool} {i : Nat} : i ∈ Region.ready .any ops L ↔ i < ops.size ∧ L.getD i true = false ∧ ∀ p ∈ preds ops i, L.getD p false = true := by
  unfold Region.ready
  simp only [List.mem_filter, List.mem_range, Bool.and_eq_true, Bool.not_eq_true']
  constructor
  · rintro ⟨h1, h2, h3⟩
    refine ⟨h1, h2, fun p hp => ?_⟩
    unfold preds at hp
    cases ho : ops[i]? with
    | none => simp [ho] at hp
    | some o =>
      simp only [ho, List.mem_map, List.mem_filter] at hp
      obtain ⟨e, ⟨he, hb⟩, rfl⟩ := hp
      simp only [ho, Option.map_some, Option.getD_some, Array.all_eq_true_iff_forall_mem] at h3
      have := h3 e (by simpa using he)
      simpa [hb] using this
  · rintro ⟨h1, h2, h3⟩
    refine ⟨h1, h2, ?_⟩
    have ho : ops[i]? = some ops[i] := Array.getElem?_eq_getElem h1
    simp only [ho, Option.map_some, Option.getD_some, Array.all_eq_true_iff_forall_mem]
    intro e he
    by_cases hb : Region.binds .any e = true
    · have := h3 e.on (by unfold preds; rw [ho]; exact List.mem_map.2 ⟨e, List.mem_filter.2 ⟨by simpa using he, hb⟩, rfl⟩)
      simp [this]
    · simp [hb]

theorem anc_listed {ops : Array Oper} {A : List Nat} (hA : ancOk ops A = true) {L : Nat → Prop} (hdc : ∀ j, j < ops.size → L j → ∀ p ∈ preds ops j, L p) :
    ∀ j, j < ops.size → (∀ p ∈ preds ops j, L p) → ∀ i, i < ops.size → anc A j i = true → L i ∧ i < j := by
  intro j
  induction j using Nat.strongRecOn with
  | ind j ih =>
    intro hj hp i hi ha
    have h1 := List.all_eq_true.1 hA j (List.mem_range.2 hj)
    simp only [Bool.and_eq_true] at h1
    have h2 := List.all_eq_true.1 h1.2 i (List.mem_range.2 hi)
    rw [ha] at h2
    simp only [Bool.not_true, Bool.false_or, Bool.and_eq_true, decide_eq_true_eq, Bool.or_eq_true, List.contains_iff_mem, List.any_eq_true] at h2
    refine ⟨?_, h2.1⟩
    rcases h2.2 with h | ⟨p, hpm, hpi⟩
    · exact hp i h
    · have hpj : p < j := by simpa using List.all_eq_true.1 h1.1 p hpm
      exact (ih p hpj (by omega) (hdc p (by omega) (hp p hpm)) i hi hpi).1

end Go.AE
set_option linter.unusedVariables false
namespace Go.AE
open Go.RowKit (Below)

theorem mapM_len {α β : Type} {f : α → Option β} : ∀ {l : List α} {r : List β}, l.mapM f = some r → r.length = l.length
  | [], r, h => by simp at h; subst h; rfl
  | a :: l, r, h => by
    simp only [List.mapM_cons, Option.bind_eq_bind, Option.pure_def] at h
    cases ha : f a with
    | none => simp [ha] at h
    | some b =>
      cases hl : l.mapM f with
      | none => simp [ha, hl] at h
      | some r' => simp [ha, hl] at h; subst h; simp [mapM_len hl]

theorem mapM_get {α β : Type} {f : α → Option β} : ∀ {l : List α} {r : List β}, l.mapM f = some r → ∀ (k : Nat) (b : β), r[k]? = some b → ∃ a, l[k]? = some a ∧ f a = some b
  | [], r, h => by simp at h; subst h; intro k b hb; simp at hb
  | a :: l, r, h => by
    simp only [List.mapM_cons, Option.bind_eq_bind, Option.pure_def] at h
    cases ha : f a with
    | none => simp [ha] at h
    | some b =>
      cases hl : l.mapM f with
      | none => simp [ha, hl] at h
      | some r' =>
        simp [ha, hl] at h
        subst h
        intro k c hc
        cases k with
        | zero => simp at hc; subst hc; exact ⟨a, by simp, ha⟩
        | succ k => simpa using mapM_get hl k c (by simpa using hc)

/-- the least m up to k at which sz has passed i, or k -/
def fi (sz : Nat → Nat) (i : Nat) : Nat → Nat
  | 0 => 0
  | k + 1 => if i < sz (fi sz i k) then fi sz i k else k + 1

theorem fi_spec {sz : Nat → Nat} {i : Nat} : ∀ {n : Nat}, (∀ a b, a ≤ b → b ≤ n → sz a ≤ sz b) → fi sz i n ≤ n ∧ (i < sz n → i < sz (fi sz i n)) ∧ ∀ m, m < fi sz i n → ¬ i < sz m
  | 0, _ => ⟨Nat.le_refl _, fun h => h, fun m h => by simp [fi] at h⟩
  | n + 1, hm => by
    obtain ⟨h1, h2, h3⟩ := fi_spec (sz := sz) (i := i) (n := n) fun a b x y => hm a b x (by omega)
    unfold fi
    split
    · rename_i h
      exact ⟨by omega, fun _ => h, h3⟩
    · rename_i h
      refine ⟨Nat.le_refl _, fun x => x, fun m hmn hi => ?_⟩
      have := hm m n (by omega) (by omega)
      exact h (h2 (by omega))

section
variable {P : Program} {nt : Nat} {ops : Array Oper} {ml : List MO} {call : CallF} {A : List Nat} {st : Nat → T × AH}

/-- All that is known of the text's run. -/
structure Run (P : Program) (nt : Nat) (ops : Array Oper) (ml : List MO) (call : CallF) (A : List Nat) (st : Nat → T × AH) : Prop where
  comp : ops.toList.mapM (compO P nt ops) = some ml
  gr : CallGr call
  step : ∀ k mo, ml[k]? = some mo → stepO call mo (st k).1 (st k).2 = some (st (k + 1))
  ancs : ancOk ops A = true
  data : dataOk ml A = true
  chain : chainOk ml A = true
  ck : ∀ i e, (i, e) ∈ pairsOf ml A → ∀ mo, ml[i]? = some mo → ∀ k, readsBlk mo.op (ev (st i).1) (st i).2 = some k → (st (e + 1)).2.get k = (st e).2.get k

namespace Run
variable (h : Run P nt ops ml call A st)
include h

theorem len : ml.length = ops.size := by rw [mapM_len h.comp]; simp
theorem get {k : Nat} {mo : MO} (hk : ml[k]? = some mo) : ∃ o, ops[k]? = some o ∧ compO P nt ops o = some mo := by
  obtain ⟨o, h1, h2⟩ := mapM_get h.comp k mo hk
  exact ⟨o, by simpa using h1, h2⟩
omit h in
theorem at_ {k : Nat} (hk : k < ml.length) : ml[k]? = some ml[k] := List.getElem?_eq_getElem hk

theorem gr1 {k : Nat} (hk : k < ml.length) : Gr (st k).2 (st (k + 1)).2 := stepO_gr h.gr (h.step k _ (at_ hk))
theorem grs {a : Nat} : ∀ {b : Nat}, a ≤ b → b ≤ ml.length → Gr (st a).2 (st b).2 := by
  intro b
  induction b with
  | zero => intro h1 _; have : a = 0 := by omega
            subst this; exact .refl _
  | succ b ih =>
    intro h1 h2
    by_cases e : a = b + 1
    · subst e; exact .refl _
    · exact (ih (by omega) (by omega)).trans (h.gr1 (by omega))
theorem mono {a b : Nat} (h1 : a ≤ b) (h2 : b ≤ ml.length) : (st a).2.size ≤ (st b).2.size := (h.grs h1 h2).size

theorem calm {k : Nat} (hk : k < ml.length) (hc : clsOf ml k ≠ 3) {i : Nat} (hi : i < (st k).2.size) : (st (k + 1)).2.get i = (st k).2.get i := by
  have hs := h.step k _ (at_ hk)
  have hc' : (ml[k]).op.cls ≠ 3 := by simpa [clsOf, at_ hk] using hc
  unfold stepO at hs
  split at hs
  · split at hs
    · rename_i v H1 hv
      have he : (st (k + 1)).2 = H1 := by cases hs' : st (k + 1); simp only [hs', Option.some.injEq, Prod.mk.injEq] at hs; exact hs.2.symm
      rw [he]
      have h3 : (ml[k]).op.cls = 0 ∨ (ml[k]).op.cls = 1 ∨ (ml[k]).op.cls = 2 := by
        revert hc'
        cases (ml[k]).op <;> simp [MOp.cls]
      rcases h3 with h3 | h3 | h3
      · rw [(pure_any h3 hv H1).1]
      · rw [(load_any h3 hv _ fun _ _ => rfl).1]
      · obtain ⟨blk, e, _⟩ := alloc_any h3 hv
        rw [e, AH.get_alloc, if_neg (by omega)]
    · cases hs
  · have he : (st (k + 1)).2 = (st k).2 := by cases hs' : st (k + 1); simp only [hs', Option.some.injEq, Prod.mk.injEq] at hs; exact hs.2.symm
    rw [he]

theorem span {i a : Nat} (hi : i < (st a).2.size) : ∀ {b : Nat}, a ≤ b → b ≤ ml.length → (∀ k, a ≤ k → k < b → clsOf ml k = 3 → (st (k + 1)).2.get i = (st k).2.get i) → (st b).2.get i = (st a).2.get i := by
  intro b
  induction b with
  | zero => intro h1 _ _; have : a = 0 := by omega
            subst this; rfl
  | succ b ih =>
    intro h1 h2 h3
    by_cases e : a = b + 1
    · subst e; rfl
    · rw [← ih (by omega) (by omega) fun k x y => h3 k x (by omega)]
      by_cases hc : clsOf ml b = 3
      · exact h3 b (by omega) (by omega) hc
      · exact h.calm (by omega) hc (Nat.lt_of_lt_of_le hi (h.mono (by omega) (by omega)))

theorem pair {i e : Nat} (hi : i < ml.length) (he : e < ml.length) (hci : clsOf ml i = 1 ∨ clsOf ml i = 2) (hce : clsOf ml e = 3) (h1 : anc A i e = false) (h2 : anc A e i = false) {k : Nat}
    (hk : readsBlk (ml[i]).op (ev (st i).1) (st i).2 = some k) : (st (e + 1)).2.get k = (st e).2.get k := by
  refine h.ck i e ?_ _ (at_ hi) k hk
  unfold pairsOf
  refine List.mem_flatMap.2 ⟨i, List.mem_range.2 hi, ?_⟩
  rw [if_pos (by rcases hci with x | x <;> simp [x])]
  exact List.mem_filterMap.2 ⟨e, List.mem_range.2 he, by simp [hce, h1, h2]⟩

/-- what a temporary holds -/
theorem dst_uniq {i j d : Nat} (hi : i < ml.length) (hj : j < ml.length) (h1 : dstOf ml i = some d) (h2 : dstOf ml j = some d) : i = j := by
  have := List.all_eq_true.1 h.data i (List.mem_range.2 hi)
  rw [h1] at this
  have := List.all_eq_true.1 this j (List.mem_range.2 hj)
  simp only [Bool.or_eq_true, beq_iff_eq, Bool.and_eq_true, bne_iff_ne] at this
  rcases this with e | e
  · exact e
  · exact absurd h2 e.1

theorem reads_ok {i j d : Nat} (hi : i < ml.length) (hj : j < ml.length) (h1 : dstOf ml i = some d) (h2 : d ∈ readsOf ml j) : i = j ∨ (i < j ∧ anc A j i = true) ∨ (j < i ∧ anc A i j = true) := by
  have := List.all_eq_true.1 h.data i (List.mem_range.2 hi)
  rw [h1] at this
  have := List.all_eq_true.1 this j (List.mem_range.2 hj)
  simp only [Bool.or_eq_true, beq_iff_eq, Bool.and_eq_true, bne_iff_ne, Bool.not_eq_true', decide_eq_true_eq] at this
  rcases this with e | e
  · exact .inl e
  · right
    rcases e.2 with (e | e) | e
    · rw [List.contains_iff_mem.2 h2] at e; cases e
    · exact .inl e
    · exact .inr e

theorem tmp1 {k x : Nat} (hk : k < ml.length) (hx : dstOf ml k ≠ some x) : (st (k + 1)).1 x = (st k).1 x := by
  have hs := h.step k _ (at_ hk)
  obtain ⟨v, e, _⟩ := stepO_congr (t' := (st k).1) (fun _ _ => rfl) (show stepO call _ _ _ = some ((st (k + 1)).1, (st (k + 1)).2) from hs)
  have hd : dstOf ml k = (ml[k]).dst := by simp [dstOf, at_ hk]
  rw [e]
  cases hdd : (ml[k]).dst with
  | none => rfl
  | some d =>
    have : x ≠ d := fun e => hx (by rw [hd, hdd, e])
    simp [T.upO, T.up, this]

theorem tmps {a x : Nat} : ∀ {b : Nat}, a ≤ b → b ≤ ml.length → (∀ k, a ≤ k → k < b → dstOf ml k ≠ some x) → (st b).1 x = (st a).1 x := by
  intro b
  induction b with
  | zero => intro h1 _ _; have : a = 0 := by omega
            subst this; rfl
  | succ b ih =>
    intro h1 h2 h3
    by_cases e : a = b + 1
    · subst e; rfl
    · rw [← ih (by omega) (by omega) fun k p q => h3 k p (by omega)]
      exact h.tmp1 (by omega) (h3 b (by omega) (by omega))

end Run
end
end Go.AE
set_option linter.unusedVariables false
namespace Go.AE
open Go.RowKit (Below)

theorem Sim.restrict {C : Ctx} {ι : Inj} {K J : AH} {w : World} (h : Sim C ι K w) (hJ : ∀ i b, J.get i = some b → K.get i = some b) (h1 : C.ro ≤ J.lo) (h2 : J.lo ≤ J.size) : Sim C ι J w :=
  ⟨h.below, h.top, h1, h2, fun i L b x y => h.live i L b x (hJ i b y), h.own, h.arg, h.inw, fun i j L M x y r1 r2 hne g1 g2 => by
    obtain ⟨b1, e1⟩ := Option.isSome_iff_exists.1 g1
    obtain ⟨b2, e2⟩ := Option.isSome_iff_exists.1 g2
    exact h.dis i j L M x y r1 r2 hne (by rw [hJ i b1 e1]; rfl) (by rw [hJ j b2 e2]; rfl), h.dr⟩

theorem Step.trans2 {C : Ctx} {ι0 ι ι' : Inj} {H0 K J J' K' : AH} {w0 w w' : World} {top : Nat} (s : Step C ι0 H0 w0 ι K w) (r : Step C ι J w ι' J' w')
    (hu : Un top ι0 H0) (htop : J'.size ≤ top) (hlo : H0.lo ≤ J.lo) (hJ : H0.size ≤ J.size) (hJJ : J.size ≤ top) (hK : K'.size = K.size) (hJK : J'.size ≤ K.size) (hKl : K'.lo = K.lo) (sim : Sim C ι' K' w') :
    Step C ι0 H0 w0 ι' K' w' := by
  have hKH := s.size
  refine ⟨s.sub.trans r.sub, ?_, by rw [hK]; exact s.size, by rw [hKl]; exact s.lo, Nat.le_trans s.heap r.heap, ?_, sim⟩
  · intro i L h1 h2
    cases h : ι i with
    | some M =>
      have hM := r.sub i M h
      rw [h1] at hM; cases hM
      obtain ⟨a, b, c⟩ := s.new i L h h2
      exact ⟨a, by omega, c⟩
    | none =>
      obtain ⟨a, b, c⟩ := r.new i L h1 h
      refine ⟨by omega, by omega, ?_⟩
      rcases c with c | ⟨j, M, hj, hb, hl, hj2⟩
      · exact .inl (Nat.le_trans s.heap c)
      · cases hj0 : ι0 j with
        | some N =>
          have hN := s.sub j N hj0
          rw [hj] at hN; cases hN
          by_cases hjs : j < H0.size
          · exact .inr ⟨j, M, hj0, hb, by omega, hjs⟩
          · have := hu j (by omega) (by omega)
            rw [hj0] at this; cases this
        | none =>
          obtain ⟨a', b', c'⟩ := s.new j M hj hj0
          rcases c' with c' | ⟨j', M', hj', hb', hlo', hj2'⟩
          · exact .inl (by omega)
          · exact .inr ⟨j', M', hj', hb'.trans hb, hlo', hj2'⟩
  · intro b hb hall
    have h1 := s.frame b hb hall
    rw [← h1]
    refine r.frame b (Nat.lt_of_lt_of_le hb s.heap) ?_
    intro i L hi hL
    cases h0 : ι0 i with
    | some M =>
      have hM := s.sub i M h0
      rw [hi] at hM; cases hM
      rcases hall i L h0 hL with h | h
      · exact .inl (by omega)
      · by_cases hx : J.size ≤ i
        · exact .inr hx
        · have := hu i h (by omega)
          rw [h0] at this; cases this
    | none =>
      obtain ⟨a, b', c⟩ := s.new i L hi h0
      rcases c with c | ⟨j, M, hj, hb2, hlo2, hj2⟩
      · omega
      · rcases hall j M hj (hb2.trans hL) with h | h <;> omega

section
variable {P : Program} {nt : Nat} {ops : Array Oper} {ml : List MO} {call : CallF} {A : List Nat} {st : Nat → T × AH}

def szs (st : Nat → T × AH) (k : Nat) : Nat := (st k).2.size
/-- what block i holds when the effects ahead of R have been carried out -/
def cont (ml : List MO) (st : Nat → T × AH) (R i : Nat) : Option Blk := (st (max R (fi (szs st) i ml.length))).2.get i
def KR (ml : List MO) (st : Nat → T × AH) (R : Nat) : AH := ⟨(List.range (szs st ml.length)).map (cont ml st R), (st 0).2.lo⟩
def KJ (ml : List MO) (st : Nat → T × AH) (R j : Nat) : AH := ⟨(List.range (szs st j)).map (cont ml st R), szs st j⟩
open Classical in
noncomputable def cur (ml : List MO) (st : Nat → T × AH) (L : Nat → Bool) : T := fun x => if ∃ k, k < ml.length ∧ L k = true ∧ dstOf ml k = some x then (st ml.length).1 x else (st 0).1 x

theorem range_get {f : Nat → Option Blk} {n i lo : Nat} : (⟨(List.range n).map f, lo⟩ : AH).get i = if i < n then f i else none := by
  simp only [AH.get, List.getElem?_map]
  by_cases h : i < n
  · rw [if_pos h, List.getElem?_range h]; rfl
  · rw [if_neg h, List.getElem?_eq_none (by simpa using h)]; rfl

structure DI (ml : List MO) (ops : Array Oper) (st : Nat → T × AH) (nt : Nat) (C : Ctx) (ι0 : Inj) (w0 : World) (L : Nat → Bool) (R : Nat) (a : Act) (w : World) (ι : Inj) : Prop where
  r : R ≤ ml.length
  lo0 : (st 0).2.lo ≤ szs st 0
  eff : ∀ e, e < ml.length → clsOf ml e = 3 → (L e = true ↔ e < R)
  dc : ∀ j, j < ops.size → L j = true → ∀ p ∈ preds ops j, L p = true
  tm : TR nt ι (cur ml st L) a
  dom : ∀ i M, ι i = some M → i < szs st 0 ∨ (∃ k, k < ml.length ∧ L k = true ∧ szs st k ≤ i ∧ i < szs st (k + 1)) ∨ szs st ml.length ≤ i
  un : ∀ i M, ι i = some M → szs st R ≤ i → i < szs st ml.length → ∀ j N, ι j = some N → N.blk = M.blk → j = i
  start : Step C ι0 (st 0).2 w0 ι (KR ml st R) w

namespace Run
variable (h : Run P nt ops ml call A st)
include h

theorem fi_le {i : Nat} : fi (szs st) i ml.length ≤ ml.length := (fi_spec fun a b x y => h.mono x y).1
theorem fi_lt {i k : Nat} (hk : k ≤ ml.length) (hi : i < szs st k) : fi (szs st) i ml.length ≤ k ∧ i < szs st (fi (szs st) i ml.length) := by
  obtain ⟨h1, h2, h3⟩ := fi_spec (sz := szs st) (i := i) (n := ml.length) fun a b x y => h.mono x y
  refine ⟨?_, h2 (Nat.lt_of_lt_of_le hi (h.mono hk (Nat.le_refl _)))⟩
  by_cases hc : fi (szs st) i ml.length ≤ k
  · exact hc
  · exact absurd hi (h3 k (by omega))
theorem fi_gt {i k : Nat} (hi : szs st k ≤ i) (hin : i < szs st ml.length) (hk : k ≤ ml.length) : k < fi (szs st) i ml.length := by
  obtain ⟨h1, h2, h3⟩ := fi_spec (sz := szs st) (i := i) (n := ml.length) fun a b x y => h.mono x y
  have := h2 hin
  by_cases hc : k < fi (szs st) i ml.length
  · exact hc
  · have hm : szs st (fi (szs st) i ml.length) ≤ szs st k := h.mono (by omega) hk
    omega

theorem cur_reads {L : Nat → Bool} (hdc : ∀ j, j < ops.size → L j = true → ∀ p ∈ preds ops j, L p = true) {j : Nat} (hj : j < ml.length) (hLj : L j = false) (hp : ∀ p ∈ preds ops j, L p = true) :
    ∀ x ∈ readsOf ml j, (st j).1 x = cur ml st L x := by
  intro x hx
  have hlen := h.len
  unfold cur
  split
  · rename_i hex
    obtain ⟨k, hk, hLk, hd⟩ := hex
    rcases h.reads_ok hk hj hd hx with e | ⟨hlt, ha⟩ | ⟨hlt, ha⟩
    · subst e; rw [hLj] at hLk; cases hLk
    · -- the writer stands ahead
      refine (h.tmps (a := j) (by omega) (Nat.le_refl _) fun q q1 q2 hq => ?_).symm
      have := h.dst_uniq hk q2 hd hq
      omega
    · -- the writer waits for this one
      have := (anc_listed h.ancs (L := fun i => L i = true) hdc k (by omega) (hdc k (by omega) hLk) j (by omega) ha).1
      rw [hLj] at this; cases this
  · rename_i hne
    refine h.tmps (a := 0) (by omega) (by omega) fun q q1 q2 hq => ?_
    rcases h.reads_ok (by omega) hj hq hx with e | ⟨hlt, ha⟩ | ⟨hlt, ha⟩
    · omega
    · have := (anc_listed h.ancs (L := fun i => L i = true) hdc j (by omega) hp q (by omega) ha).1
      exact hne ⟨q, by omega, this, hq⟩
    · omega

theorem cur_next {L : Nat → Bool} {j : Nat} (hj : j < ml.length) {v : Value} (hv : (st (j + 1)).1 = (st j).1.upO (dstOf ml j) v) :
    cur ml st (fun i => if i = j then true else L i) = (cur ml st L).upO (dstOf ml j) v := by
  funext x
  by_cases hd : dstOf ml j = some x
  · have hn : (st ml.length).1 x = v := by
      rw [h.tmps (a := j + 1) (by omega) (Nat.le_refl _) fun q q1 q2 hq => by have := h.dst_uniq hj q2 hd hq; omega]
      rw [hv, hd]; simp [T.upO, T.up]
    unfold cur
    rw [if_pos ⟨j, hj, if_pos rfl, hd⟩, hd, hn]
    simp [T.upO, T.up]
  · have hr : (cur ml st L).upO (dstOf ml j) v x = cur ml st L x := by
      cases hdd : dstOf ml j with
      | none => rfl
      | some d =>
        have : x ≠ d := fun e => hd (by rw [hdd, e])
        simp [T.upO, T.up, this]
    rw [hr]
    unfold cur
    by_cases hex : ∃ k, k < ml.length ∧ L k = true ∧ dstOf ml k = some x
    · obtain ⟨k, a, b, c⟩ := hex
      rw [if_pos ⟨k, a, by simp [b], c⟩, if_pos ⟨k, a, b, c⟩]
    · rw [if_neg hex, if_neg]
      rintro ⟨k, a, b, c⟩
      by_cases e : k = j
      · subst e; exact hd c
      · exact hex ⟨k, a, by simpa [e] using b, c⟩

end Run
end
end Go.AE
set_option linter.unusedVariables false
namespace Go.AE
open Go.RowKit (Below)

section
variable {P : Program} {nt : Nat} {ops : Array Oper} {ml : List MO} {call : CallF} {A : List Nat} {st : Nat → T × AH}
variable {C : Ctx} {ι0 ι : Inj} {w0 w : World} {L : Nat → Bool} {R : Nat} {a : Act}

theorem calm_heap {mo : MO} {t t1 : T} {H H1 K : AH} (hc : mo.op.cls ≠ 3) (hs : stepO call mo t H = some (t1, H1)) (hK : K.size = H.size)
    (hk : mo.op.cls = 1 → ∀ b, readsBlk mo.op (ev t) H = some b → K.get b = H.get b) :
    ∃ K1, stepO call mo t K = some (t1, K1) ∧ K1.size = H1.size ∧ (∀ i, i < H.size → K1.get i = K.get i) ∧ (∀ i, H.size ≤ i → i < H1.size → K1.get i = H1.get i) ∧ H1.size ≤ H.size + 1 ∧
      (H.size < H1.size → mo.op.cls = 2 ∧ readsBlk mo.op (ev t) H = some H.size) := by
  unfold stepO at hs ⊢
  split at hs
  · rename_i hw
    rw [if_pos hw]
    split at hs
    · rename_i v H2 hv
      cases hs
      have h3 : mo.op.cls = 0 ∨ mo.op.cls = 1 ∨ mo.op.cls = 2 := by
        revert hc
        cases mo.op <;> simp [MOp.cls]
      rcases h3 with h3 | h3 | h3
      · obtain ⟨rfl, e⟩ := pure_any h3 hv K
        exact ⟨K, by rw [e], hK, fun _ _ => rfl, fun i x y => by omega, by omega, fun x => by omega⟩
      · obtain ⟨rfl, e⟩ := load_any h3 hv K (hk h3)
        exact ⟨K, by rw [e], hK, fun _ _ => rfl, fun i x y => by omega, by omega, fun x => by omega⟩
      · obtain ⟨blk, rfl, e⟩ := alloc_any h3 hv
        refine ⟨K.alloc blk, by rw [e K hK], by simp [hK], fun i hi => by rw [AH.get_alloc, if_neg (by omega)], fun i x y => ?_, by simp, fun _ => ⟨h3, ?_⟩⟩
        · have : i = H.size := by simp at y; omega
          subst this
          rw [AH.get_alloc, AH.get_alloc, if_pos rfl, if_pos hK.symm]
        · revert h3
          cases mo.op <;> simp [MOp.cls, readsBlk]
    · cases hs
  · rename_i hw
    rw [if_neg hw]
    cases hs
    exact ⟨K, rfl, hK, fun _ _ => rfl, fun i x y => by omega, by omega, fun x => by omega⟩

namespace Run
variable (h : Run P nt ops ml call A st)
include h

theorem un_at (d : DI ml ops st nt C ι0 w0 L R a w ι) {j : Nat} (hj : j < ml.length) (hLj : L j = false) {i : Nat} (h1 : szs st j ≤ i) (h2 : i < szs st (j + 1)) : ι i = none := by
  cases hi : ι i with
  | none => rfl
  | some M =>
    have m1 : szs st 0 ≤ szs st j := h.mono (Nat.zero_le _) (by omega)
    have m2 : szs st (j + 1) ≤ szs st ml.length := h.mono (by omega) (Nat.le_refl _)
    rcases d.dom i M hi with x | ⟨k, hk, hLk, x, y⟩ | x
    · omega
    · by_cases e : k = j
      · subst e; rw [hLj] at hLk; cases hLk
      · by_cases e2 : k < j
        · have : szs st (k + 1) ≤ szs st j := h.mono (by omega) (by omega); omega
        · have : szs st (j + 1) ≤ szs st k := h.mono (by omega) (by omega); omega
    · omega

omit h in
theorem dc_next (d : DI ml ops st nt C ι0 w0 L R a w ι) {j : Nat} (hp : ∀ p ∈ preds ops j, L p = true) :
    ∀ k, k < ops.size → (if k = j then true else L k) = true → ∀ p ∈ preds ops k, (if p = j then true else L p) = true := by
  intro k hk hLk p hpk
  by_cases e : p = j
  · rw [if_pos e]
  · rw [if_neg e]
    by_cases e2 : k = j
    · subst e2; exact hp p hpk
    · rw [if_neg e2] at hLk
      exact d.dc k hk hLk p hpk

omit h in
theorem dom_next (d : DI ml ops st nt C ι0 w0 L R a w ι) {j : Nat} (hj : j < ml.length) {ι' : Inj} {J J' : AH} {w' : World} (r : Step C ι J w ι' J' w') (hJ : J.size = szs st j) (hJ' : J'.size = szs st (j + 1)) :
    ∀ i M, ι' i = some M → i < szs st 0 ∨ (∃ k, k < ml.length ∧ (if k = j then true else L k) = true ∧ szs st k ≤ i ∧ i < szs st (k + 1)) ∨ szs st ml.length ≤ i := by
  intro i M hi
  cases h0 : ι i with
  | some N =>
    rcases d.dom i N h0 with x | ⟨k, hk, hLk, x, y⟩ | x
    · exact .inl x
    · exact .inr (.inl ⟨k, hk, by split <;> first | rfl | exact hLk, x, y⟩)
    · exact .inr (.inr x)
  | none =>
    obtain ⟨x, y, _⟩ := r.new i M hi h0
    exact .inr (.inl ⟨j, hj, if_pos rfl, by omega, by omega⟩)

theorem open_pair (d : DI ml ops st nt C ι0 w0 L R a w ι) {j : Nat} (hj : j < ml.length) (hLj : L j = false) (hp : ∀ p ∈ preds ops j, L p = true) {e : Nat} (he : e < ml.length) (hce : clsOf ml e = 3)
    (ho : (R ≤ e ∧ e < j) ∨ (e < R ∧ j < e)) : anc A j e = false ∧ anc A e j = false := by
  have hlen := h.len
  have lt : ∀ x y, x < ml.length → y < ml.length → anc A x y = true → y < x := by
    intro x y hx hy ha
    have h1 := List.all_eq_true.1 h.ancs x (List.mem_range.2 (by omega))
    simp only [Bool.and_eq_true] at h1
    have h2 := List.all_eq_true.1 h1.2 y (List.mem_range.2 (by omega))
    rw [ha] at h2
    simp only [Bool.not_true, Bool.false_or, Bool.and_eq_true, decide_eq_true_eq] at h2
    exact h2.1
  rcases ho with ⟨h1, h2⟩ | ⟨h1, h2⟩
  · have hnl : L e = false := by
      cases hLe : L e with
      | false => rfl
      | true => have := (d.eff e he hce).1 hLe; omega
    constructor
    · cases ha : anc A j e with
      | false => rfl
      | true =>
        have := (anc_listed h.ancs (L := fun i => L i = true) d.dc j (by omega) hp e (by omega) ha).1
        rw [hnl] at this; cases this
    · cases ha : anc A e j with
      | false => rfl
      | true => have := lt e j he hj ha; omega
  · have hle : L e = true := (d.eff e he hce).2 h1
    constructor
    · cases ha : anc A j e with
      | false => rfl
      | true => have := lt j e hj he ha; omega
    · cases ha : anc A e j with
      | false => rfl
      | true =>
        have := (anc_listed h.ancs (L := fun i => L i = true) d.dc e (by omega) (d.dc e (by omega) hle) j (by omega) ha).1
        rw [hLj] at this; cases this

/-- An operation that only computes, reads or makes a block. -/
theorem calm_step (d : DI ml ops st nt C ι0 w0 L R a w ι) (hu : Un (szs st ml.length) ι0 (st 0).2) {j : Nat} (hj : j < ml.length) (hc : clsOf ml j ≠ 3) (hLj : L j = false) (hp : ∀ p ∈ preds ops j, L p = true)
    (hcall : CallOk P call) {o : Oper} (ho : ops[j]? = some o) {Q : Exit → Act → World → Prop} {K : Act → World → Prop}
    (hK : ∀ a' w' ι', DI ml ops st nt C ι0 w0 (fun i => if i = j then true else L i) R a' w' ι' → K a' w') :
    if Region.wanted o (yielded ops a.tmps) then o.wp P a w K Q else K (a.put o.dst undef) w := by
  have hlen := h.len
  obtain ⟨o', ho', hco⟩ := h.get (at_ hj)
  rw [ho] at ho'
  cases ho'
  have hrd := h.cur_reads d.dc hj hLj hp
  have hreads : readsOf ml j = (ml[j]).reads := by simp [readsOf, at_ hj]
  have hdst : dstOf ml j = (ml[j]).dst := by simp [dstOf, at_ hj]
  have hclsj : clsOf ml j = (ml[j]).op.cls := by simp [clsOf, at_ hj]
  have hcls : (ml[j]).op.cls ≠ 3 := by rw [← hclsj]; exact hc
  have hrd' : ∀ x ∈ (ml[j]).reads, (st j).1 x = cur ml st L x := fun x hx => hrd x (by rw [hreads]; exact hx)
  obtain ⟨v, hv1, hv2⟩ := stepO_congr (t' := cur ml st L) hrd' (show stepO call ml[j] (st j).1 (st j).2 = some ((st (j + 1)).1, (st (j + 1)).2) from h.step j _ (at_ hj))
  have hblk : readsBlk (ml[j]).op (ev (cur ml st L)) (st j).2 = readsBlk (ml[j]).op (ev (st j).1) (st j).2 :=
    (readsBlk_congr (ev_congr fun i hi => hrd' i (by simp [MO.reads, hi])) _).symm
  -- the heap that this operation sees
  have hsz : (KJ ml st R j).size = (st j).2.size := by simp [KJ, AH.size, szs]
  have hget : ∀ i, (KJ ml st R j).get i = if i < szs st j then cont ml st R i else none := fun i => range_get
  have hgetR : ∀ i, (KR ml st R).get i = if i < szs st ml.length then cont ml st R i else none := fun i => range_get
  have hmn : szs st j ≤ szs st ml.length := h.mono (by omega) (Nat.le_refl _)
  have hmn1 : szs st (j + 1) ≤ szs st ml.length := h.mono (by omega) (Nat.le_refl _)
  have hmj1 : szs st j ≤ szs st (j + 1) := h.mono (by omega) (by omega)
  have h0j : szs st 0 ≤ szs st j := h.mono (Nat.zero_le _) (by omega)
  have noteff : ∀ e, clsOf ml e = 3 → e ≠ j := fun e hce x => by subst x; exact hc hce
  have F1 : ∀ b, readsBlk (ml[j]).op (ev (st j).1) (st j).2 = some b → clsOf ml j = 1 → b < szs st j → cont ml st R b = (st j).2.get b := by
    intro b hb hcl hbj
    obtain ⟨f1, f2⟩ := h.fi_lt (by omega) hbj
    unfold cont
    by_cases hm : max R (fi (szs st) b ml.length) ≤ j
    · exact (h.span (Nat.lt_of_lt_of_le f2 (h.mono (by omega) (by have := d.r; omega))) hm (by omega) fun e e1 e2 hce =>
        let ⟨x, y⟩ := h.open_pair d hj hLj hp (e := e) (by omega) hce (.inl ⟨by omega, e2⟩)
        h.pair hj (by omega) (.inl hcl) hce x y hb).symm
    · have hm2 : max R (fi (szs st) b ml.length) = R := by omega
      rw [hm2]
      exact h.span hbj (by omega) d.r fun e e1 e2 hce =>
        let ⟨x, y⟩ := h.open_pair d hj hLj hp (e := e) (by have := d.r; omega) hce (.inr ⟨e2, by have := noteff e hce; omega⟩)
        h.pair hj (by have := d.r; omega) (.inl hcl) hce x y hb
  have F2 : ∀ b, readsBlk (ml[j]).op (ev (st j).1) (st j).2 = some b → clsOf ml j = 2 → szs st j ≤ b → b < szs st (j + 1) → cont ml st R b = (st (j + 1)).2.get b := by
    intro b hb hcl hb1 hb2
    obtain ⟨f1, f2⟩ := h.fi_lt (by omega) hb2
    have f3 := h.fi_gt hb1 (by omega) (by omega)
    have fe : fi (szs st) b ml.length = j + 1 := by omega
    unfold cont
    rw [fe]
    by_cases hm : R ≤ j + 1
    · rw [show max R (j + 1) = j + 1 by omega]
    · rw [show max R (j + 1) = R by omega]
      exact h.span hb2 (by omega) d.r fun e e1 e2 hce =>
        let ⟨x, y⟩ := h.open_pair d hj hLj hp (e := e) (by have := d.r; omega) hce (.inr ⟨e2, by omega⟩)
        h.pair hj (by have := d.r; omega) (.inr hcl) hce x y hb
  obtain ⟨K1, k1, k2, k3, k4, k5, k6⟩ := calm_heap (K := KJ ml st R j) hcls hv2 hsz (by
    intro h1 b hb
    rw [hget]
    rw [hblk] at hb
    split
    · rename_i hlt; exact F1 b hb (by rw [hclsj]; exact h1) hlt
    · rename_i hnl
      cases hg : (st j).2.get b with
      | none => rfl
      | some bb => exact absurd (AH.get_lt hg) hnl)
  have k2' : K1.size = szs st (j + 1) := k2
  -- what the world tells of it
  have hsim : Sim C ι (KJ ml st R j) w := by
    refine d.start.sim.restrict ?_ ?_ ?_
    · intro i b hi
      rw [hget] at hi
      split at hi
      · rename_i hlt; rw [hgetR, if_pos (by omega)]; exact hi
      · cases hi
    · have := d.start.sim.ro
      have h2 := d.start.sim.lo
      have h3 : (KR ml st R).lo = (st 0).2.lo := rfl
      show C.ro ≤ szs st j
      have h4 := d.lo0
      omega
    · exact Nat.le_of_eq hsz.symm
  have hun : Un (szs st (j + 1)) ι (KJ ml st R j) := by
    intro i h1 h2
    rw [hsz] at h1
    exact h.un_at d hj hLj h1 h2
  refine stepO_sound hcall hco d.tm hsim hun k1 (Nat.le_of_eq k2') fun a' w' ι' htr st' => hK a' w' ι' ?_
  have hnew : ∀ i M, ι' i = some M → ι i = none → i = szs st j ∧ szs st j < szs st (j + 1) ∧ w.heap.size ≤ M.blk := by
    intro i M h1 h2
    obtain ⟨x, y, z⟩ := st'.new i M h1 h2
    rw [hsz] at x
    rw [k2] at y
    have hk5 : szs st (j + 1) ≤ szs st j + 1 := k5
    have x' : szs st j ≤ i := x
    have y' : i < szs st (j + 1) := y
    refine ⟨by omega, by omega, ?_⟩
    rcases z with z | ⟨q, N, q1, q2, q3, q4⟩
    · exact z
    · rw [hsz] at q4
      have q3' : szs st j ≤ q := q3
      have q4' : q < szs st j := q4
      omega
  have hold : ∀ i M, ι' i = some M → ι i ≠ none → ι i = some M := by
    intro i M h1 h2
    cases h0 : ι i with
    | none => exact absurd h0 h2
    | some N =>
      have := st'.sub i N h0
      rw [h1] at this; cases this; rfl
  have hheap : ∀ b, b < w.heap.size → w'.heap[b]? = w.heap[b]? := fun b hb => st'.frame b hb fun i M _ _ => by
    rw [hsz]
    show i < szs st j ∨ szs st j ≤ i
    omega
  have sim' : Sim C ι' (KR ml st R) w' := by
    refine ⟨st'.sim.below, st'.sim.top, d.start.sim.ro, d.start.sim.lo, ?_, st'.sim.own, st'.sim.arg, st'.sim.inw, ?_, st'.sim.dr⟩
    · intro i M b h1 h2
      by_cases hi : i < szs st (j + 1)
      · refine st'.sim.live i M b h1 ?_
        rw [hgetR] at h2
        split at h2
        · by_cases hij : i < szs st j
          · rw [k3 i hij, hget, if_pos hij]; exact h2
          · have h5 := k6 (by show szs st j < szs st (j + 1); omega)
            rw [k4 i (by show szs st j ≤ i; omega) hi, ← h2]
            have hk5 : szs st (j + 1) ≤ szs st j + 1 := k5
            have hie : i = (st j).2.size := by show i = szs st j; omega
            rw [hblk] at h5
            subst hie
            exact (F2 _ h5.2 (by rw [hclsj]; exact h5.1) (Nat.le_refl _) hi).symm
        · cases h2
      · have h0 : ι i ≠ none := fun h0 => by have := hnew i M h1 h0; omega
        have h0' := hold i M h1 h0
        exact (d.start.sim.live i M b h0' h2).mono st'.sub (hheap _ (d.start.sim.inw i M h0'))
    · intro i i2 M N h1 h2 r1 r2 hne g1 g2
      by_cases e1 : ι i = none
      · obtain ⟨x1, x2, x3⟩ := hnew i M h1 e1
        by_cases e2 : ι i2 = none
        · obtain ⟨y1, y2, y3⟩ := hnew i2 N h2 e2
          omega
        · have := d.start.sim.inw i2 N (hold i2 N h2 e2)
          intro hb; omega
      · by_cases e2 : ι i2 = none
        · obtain ⟨y1, y2, y3⟩ := hnew i2 N h2 e2
          have := d.start.sim.inw i M (hold i M h1 e1)
          intro hb; omega
        · exact d.start.sim.dis i i2 M N (hold i M h1 e1) (hold i2 N h2 e2) r1 r2 hne g1 g2
  refine ⟨d.r, d.lo0, ?_, dc_next d hp, ?_, dom_next d hj st' hsz k2', ?_, ?_⟩
  · intro e he hce
    have := noteff e hce
    simp only [this, if_false]
    exact d.eff e he hce
  · rw [h.cur_next hj (by rw [hdst]; exact hv1), hdst]
    exact htr
  · intro i M h1 h2 h3 i2 N h4 h5
    by_cases e1 : ι i = none
    · obtain ⟨x1, x2, x3⟩ := hnew i M h1 e1
      by_cases e2 : ι i2 = none
      · obtain ⟨y1, y2, y3⟩ := hnew i2 N h4 e2
        omega
      · have := d.start.sim.inw i2 N (hold i2 N h4 e2)
        omega
    · by_cases e2 : ι i2 = none
      · obtain ⟨y1, y2, y3⟩ := hnew i2 N h4 e2
        have := d.start.sim.inw i M (hold i M h1 e1)
        omega
      · exact d.un i M (hold i M h1 e1) h2 h3 i2 N (hold i2 N h4 e2) h5
  · refine d.start.trans2 st' hu (by rw [k2']; exact hmn1) ?_ (by rw [hsz]; exact h0j) (by rw [hsz]; exact hmn) rfl (by rw [k2']; simpa [KR, AH.size] using hmn1) rfl sim'
    show (st 0).2.lo ≤ szs st j
    have := d.lo0
    omega

/-- An operation that may write: a call, a store, an append, a copy. -/
theorem eff_step (d : DI ml ops st nt C ι0 w0 L R a w ι) (hu : Un (szs st ml.length) ι0 (st 0).2) {j : Nat} (hj : j < ml.length) (hc : clsOf ml j = 3) (hLj : L j = false) (hp : ∀ p ∈ preds ops j, L p = true)
    (hcall : CallOk P call) {o : Oper} (ho : ops[j]? = some o) {Q : Exit → Act → World → Prop} {K : Act → World → Prop}
    (hK : ∀ a' w' ι', DI ml ops st nt C ι0 w0 (fun i => if i = j then true else L i) (j + 1) a' w' ι' → K a' w') :
    if Region.wanted o (yielded ops a.tmps) then o.wp P a w K Q else K (a.put o.dst undef) w := by
  have hlen := h.len
  obtain ⟨o', ho', hco⟩ := h.get (at_ hj)
  rw [ho] at ho'
  cases ho'
  have hrd := h.cur_reads d.dc hj hLj hp
  have hreads : readsOf ml j = (ml[j]).reads := by simp [readsOf, at_ hj]
  have hdst : dstOf ml j = (ml[j]).dst := by simp [dstOf, at_ hj]
  have hrd' : ∀ x ∈ (ml[j]).reads, (st j).1 x = cur ml st L x := fun x hx => hrd x (by rw [hreads]; exact hx)
  obtain ⟨v, hv1, hv2⟩ := stepO_congr (t' := cur ml st L) hrd' (show stepO call ml[j] (st j).1 (st j).2 = some ((st (j + 1)).1, (st (j + 1)).2) from h.step j _ (at_ hj))
  have hRj : R ≤ j := by
    cases Nat.lt_or_ge j R with
    | inl hlt => have := (d.eff j hj hc).2 hlt; rw [hLj] at this; cases this
    | inr hge => exact hge
  have hgetR : ∀ R' i, (KR ml st R').get i = if i < szs st ml.length then cont ml st R' i else none := fun R' i => range_get
  have hmn : szs st j ≤ szs st ml.length := h.mono (by omega) (Nat.le_refl _)
  have hmn1 : szs st (j + 1) ≤ szs st ml.length := h.mono (by omega) (Nat.le_refl _)
  have hmj1 : szs st j ≤ szs st (j + 1) := h.mono (by omega) (by omega)
  have h0j : szs st 0 ≤ szs st j := h.mono (Nat.zero_le _) (by omega)
  have hRj1 : szs st R ≤ szs st (j + 1) := h.mono (by omega) (by omega)
  have hlo : (st j).2.lo = (st 0).2.lo := (h.grs (a := 0) (Nat.zero_le j) (by omega)).lo
  -- no effect lies between R and j
  have nobetween : ∀ e, R ≤ e → e < j → clsOf ml e = 3 → False := by
    intro e h1 h2 hce
    have hch := List.all_eq_true.1 h.chain j (List.mem_range.2 hj)
    have hch := List.all_eq_true.1 hch e (List.mem_range.2 (by omega))
    simp only [hc, hce, beq_self_eq_true, Bool.and_true, Bool.or_eq_true, Bool.not_eq_true', decide_eq_false_iff_not] at hch
    rcases hch with x | x
    · exact x h2
    · have := (anc_listed h.ancs (L := fun i => L i = true) d.dc j (by omega) hp e (by omega) x).1
      have := (d.eff e (by omega) hce).1 this
      omega
  have hcont : ∀ i, i < szs st j → cont ml st R i = (st j).2.get i := by
    intro i hi
    obtain ⟨f1, f2⟩ := h.fi_lt (by omega) hi
    unfold cont
    exact (h.span (Nat.lt_of_lt_of_le f2 (h.mono (by omega) (by have := d.r; omega))) (by omega) (by omega) fun e e1 e2 hce => (nobetween e (by omega) e2 hce).elim).symm
  have hsim : Sim C ι (st j).2 w := by
    refine d.start.sim.restrict ?_ ?_ ?_
    · intro i b hi
      have hlt : i < szs st j := AH.get_lt hi
      rw [hgetR, if_pos (by omega), hcont i hlt]
      exact hi
    · rw [hlo]; exact d.start.sim.ro
    · rw [hlo]
      have := d.lo0
      show (st 0).2.lo ≤ szs st j
      omega
  have hun : Un (szs st (j + 1)) ι (st j).2 := fun i h1 h2 => h.un_at d hj hLj h1 h2
  refine stepO_sound hcall hco d.tm hsim hun hv2 (Nat.le_refl _) fun a' w' ι' htr st' => hK a' w' ι' ?_
  have hold : ∀ i M, ι' i = some M → ι i ≠ none → ι i = some M := by
    intro i M h1 h2
    cases h0 : ι i with
    | none => exact absurd h0 h2
    | some N =>
      have := st'.sub i N h0
      rw [h1] at this; cases this; rfl
  have hun' : ∀ i M, ι' i = some M → szs st (j + 1) ≤ i → i < szs st ml.length → ∀ i2 N, ι' i2 = some N → N.blk = M.blk → i2 = i := by
    intro i M h1 h2 h3 i2 N h4 h5
    have hi0 : ι i ≠ none := fun h0 => by
      obtain ⟨x, y, z⟩ := st'.new i M h1 h0
      have y' : i < szs st (j + 1) := y
      omega
    have hiM := hold i M h1 hi0
    by_cases e2 : ι i2 = none
    · obtain ⟨x, y, z⟩ := st'.new i2 N h4 e2
      have hin := d.start.sim.inw i M hiM
      rcases z with z | ⟨q, N', q1, q2, q3, q4⟩
      · omega
      · have := d.un i M hiM (by omega) h3 q N' q1 (by omega)
        have q4' : q < szs st j := q4
        omega
    · exact d.un i M hiM (by omega) h3 i2 N (hold i2 N h4 e2) h5
  have hc1 : ∀ i, i < szs st (j + 1) → cont ml st (j + 1) i = (st (j + 1)).2.get i := by
    intro i hi
    obtain ⟨f1, f2⟩ := h.fi_lt (by omega) hi
    unfold cont
    rw [show max (j + 1) (fi (szs st) i ml.length) = j + 1 by omega]
  have hc2 : ∀ i, szs st (j + 1) ≤ i → i < szs st ml.length → cont ml st (j + 1) i = cont ml st R i := by
    intro i hi hin
    have f3 := h.fi_gt hi hin (by omega)
    unfold cont
    rw [show max (j + 1) (fi (szs st) i ml.length) = max R (fi (szs st) i ml.length) by omega]
  have sim' : Sim C ι' (KR ml st (j + 1)) w' := by
    refine ⟨st'.sim.below, st'.sim.top, d.start.sim.ro, (by have := d.start.sim.lo; simpa [KR, AH.size] using this), ?_, st'.sim.own, st'.sim.arg, st'.sim.inw, ?_, st'.sim.dr⟩
    · intro i M b h1 h2
      rw [hgetR] at h2
      split at h2
      · rename_i hin
        by_cases hi : i < szs st (j + 1)
        · exact st'.sim.live i M b h1 (by rw [← hc1 i hi]; exact h2)
        · have h0 : ι i ≠ none := fun h0 => by
            obtain ⟨x, y, z⟩ := st'.new i M h1 h0
            have y' : i < szs st (j + 1) := y
            omega
          have h0' := hold i M h1 h0
          refine (d.start.sim.live i M b h0' (by rw [hgetR, if_pos hin, ← hc2 i (by omega) hin]; exact h2)).mono st'.sub (st'.frame _ (d.start.sim.inw i M h0') fun q N q1 q2 => ?_)
          right
          have := d.un i M h0' (by omega) hin q N q1 q2
          show szs st j ≤ q
          omega
      · cases h2
    · intro i i2 M N h1 h2 r1 r2 hne g1 g2
      rw [hgetR] at g1 g2
      split at g1
      · rename_i hin
        split at g2
        · rename_i hin2
          by_cases hi : i < szs st (j + 1)
          · by_cases hi2 : i2 < szs st (j + 1)
            · exact st'.sim.dis i i2 M N h1 h2 r1 r2 hne (by rw [← hc1 i hi]; exact g1) (by rw [← hc1 i2 hi2]; exact g2)
            · intro hb
              exact absurd (hun' i2 N h2 (by omega) hin2 i M h1 hb) hne
          · intro hb
            exact absurd (hun' i M h1 (by omega) hin i2 N h2 hb.symm).symm hne
        · cases g2
      · cases g1
  refine ⟨by omega, d.lo0, ?_, dc_next d hp, ?_, dom_next d hj st' rfl rfl, hun', ?_⟩
  · intro e he hce
    by_cases x : e = j
    · subst x; simp
    · simp only [x, if_false]
      rw [d.eff e he hce]
      constructor
      · intro y; omega
      · intro y
        cases Nat.lt_or_ge e R with
        | inl hlt => exact hlt
        | inr hge => exact (nobetween e hge (by omega) hce).elim
  · rw [h.cur_next hj (by rw [hdst]; exact hv1), hdst]
    exact htr
  · have e : (KR ml st R).size = szs st ml.length := by simp [KR, AH.size]
    refine d.start.trans2 st' hu hmn1 (by rw [hlo]; exact Nat.le_refl _) h0j hmn ?_ ?_ rfl sim'
    · simp [KR, AH.size]
    · rw [e]; exact hmn1

end Run
end
end Go.AE
set_option linter.unusedVariables false
namespace Go.AE
open Go.RowKit (Below)

section
variable {P : Program} {nt : Nat} {ops : Array Oper} {ml : List MO} {call : CallF} {A : List Nat} {st : Nat → T × AH}

def unl (n : Nat) (L : Nat → Bool) : Nat := (List.range n).countP fun i => !L i

theorem unl_next {n j : Nat} {L : Nat → Bool} (hj : j < n) (hL : L j = false) : unl n (fun i => if i = j then true else L i) + 1 = unl n L := by
  unfold unl
  induction n with
  | zero => omega
  | succ n ih =>
    rw [List.range_succ, List.countP_append, List.countP_append]
    by_cases e : j = n
    · subst e
      have : (List.range j).countP (fun i => !(if i = j then true else L i)) = (List.range j).countP fun i => !L i := by
        refine List.countP_congr fun i hi => ?_
        have := List.mem_range.1 hi
        simp [show i ≠ j by omega]
      rw [this]
      simp [hL]
    · have h1 := ih (by omega)
      have : (List.countP (fun i => !(if i = j then true else L i)) [n]) = List.countP (fun i => !L i) [n] := by
        simp [List.countP_cons, show n ≠ j from fun x => e x.symm]
      rw [this]
      omega

theorem unl_zero {n : Nat} {L : Nat → Bool} (h : unl n L = 0) : ∀ i, i < n → L i = true := by
  intro i hi
  have := (List.countP_eq_zero.1 h) i (List.mem_range.2 hi)
  simpa using this

theorem unl_pos {n : Nat} {L : Nat → Bool} (h : 0 < unl n L) : ∃ j, j < n ∧ L j = false ∧ ∀ i, i < j → L i = true := by
  have hex : ∃ j, j < n ∧ L j = false := by
    obtain ⟨x, hx, hp⟩ := List.countP_pos_iff.1 h
    exact ⟨x, List.mem_range.1 hx, by simpa using hp⟩
  obtain ⟨j, hj, hL⟩ := hex
  induction j using Nat.strongRecOn with
  | ind j ih =>
    by_cases hall : ∀ i, i < j → L i = true
    · exact ⟨j, hj, hL, hall⟩
    · have : ∃ i, i < j ∧ L i = false := by
        apply Classical.byContradiction
        intro hc
        apply hall
        intro i hi
        cases hLi : L i with
        | true => rfl
        | false => exact absurd ⟨i, hi, hLi⟩ hc
      obtain ⟨i, hi, hLi⟩ := this
      exact ih i hi (by omega) hLi

def lst (L : Array Bool) (i : Nat) : Bool := L.getD i false

theorem lst_set {L : Array Bool} {j : Nat} (hj : j < L.size) : lst (L.setIfInBounds j true) = fun i => if i = j then true else lst L i := by
  funext i
  unfold lst
  by_cases e : i = j
  · subst e
    rw [if_pos rfl]
    simp [Array.getD, hj]
  · rw [if_neg e]
    simp only [Array.getD, Array.size_setIfInBounds]
    split
    · rename_i hi
      rw [Array.getInternal_eq_getElem, Array.getInternal_eq_getElem, Array.getElem_setIfInBounds_ne (by omega) (Ne.symm e)]
    · rfl

theorem Run.finish (h : Run P nt ops ml call A st) {C : Ctx} {ι0 : Inj} {w0 : World} (hu : Un (szs st ml.length) ι0 (st 0).2) (hcall : CallOk P call) {Q : Exit → Act → World → Prop}
    (hQ : ∀ a w ι, TR nt ι (st ml.length).1 a → Step C ι0 (st 0).2 w0 ι (st ml.length).2 w → Q .normal a w) :
    ∀ (fuel : Nat) (L : Array Bool) (R : Nat) (a : Act) (w : World) (ι : Inj), L.size = ops.size → unl ml.length (lst L) = fuel → DI ml ops st nt C ι0 w0 (lst L) R a w ι → wpAny P .any ops Q fuel L a w := by
  have hlen := h.len
  have done : ∀ (L : Array Bool) (R : Nat) (a : Act) (w : World) (ι : Inj), (∀ i, i < ml.length → lst L i = true) → DI ml ops st nt C ι0 w0 (lst L) R a w ι → Q .normal a w := by
    intro L R a w ι hall d
    have hgetR : ∀ i, (KR ml st R).get i = if i < szs st ml.length then cont ml st R i else none := fun i => range_get
    have hc : ∀ i, i < szs st ml.length → cont ml st R i = (st ml.length).2.get i := by
      intro i hi
      obtain ⟨f1, f2⟩ := h.fi_lt (Nat.le_refl _) hi
      unfold cont
      exact (h.span (Nat.lt_of_lt_of_le f2 (h.mono (by omega) (by have := d.r; omega))) (by have := d.r; omega) (Nat.le_refl _) fun e e1 e2 hce => by
        have := (d.eff e e2 hce).1 (hall e e2)
        omega).symm
    refine hQ a w ι ?_ ?_
    · have : cur ml st (lst L) = (st ml.length).1 := by
        funext x
        unfold cur
        split
        · rfl
        · rename_i hne
          exact (h.tmps (a := 0) (Nat.zero_le _) (Nat.le_refl _) fun q q1 q2 hq => hne ⟨q, q2, hall q q2, hq⟩).symm
      rw [← this]
      exact d.tm
    · have hs := d.start
      have hlo : (st ml.length).2.lo = (st 0).2.lo := (h.grs (a := 0) (Nat.zero_le _) (Nat.le_refl _)).lo
      have hz : (KR ml st R).size = (st ml.length).2.size := by simp [KR, AH.size, szs]
      refine ⟨hs.sub, fun i M x y => by have := hs.new i M x y; rw [hz] at this; exact this, by rw [← hz]; exact hs.size, hlo, hs.heap, hs.frame, ?_⟩
      refine hs.sim.restrict ?_ (by rw [hlo]; exact hs.sim.ro) (by rw [hlo, ← hz]; exact hs.sim.lo)
      intro i b hi
      have hlt : i < szs st ml.length := AH.get_lt hi
      rw [hgetR, if_pos hlt, hc i hlt]
      exact hi
  intro fuel
  induction fuel with
  | zero =>
    intro L R a w ι hsz hun d
    have hall := unl_zero hun
    refine ⟨?_, done L R a w ι hall d⟩
    cases hr : Region.ready .any ops L with
    | nil => rfl
    | cons i l =>
      have hm : i ∈ Region.ready .any ops L := by rw [hr]; exact List.mem_cons_self ..
      obtain ⟨h1, h2, _⟩ := mem_ready.1 hm
      have := hall i (by omega)
      unfold lst at this
      simp [Array.getD, show i < L.size by omega] at this h2
      rw [this] at h2; cases h2
  | succ fuel ih =>
    intro L R a w ι hsz hun d
    refine ⟨?_, ?_⟩
    · intro hr
      obtain ⟨j, hj, hLj, hlow⟩ := unl_pos (n := ml.length) (L := lst L) (by omega)
      exfalso
      have hm : j ∈ Region.ready .any ops L := by
        refine mem_ready.2 ⟨by omega, ?_, fun p hp => ?_⟩
        · unfold lst at hLj
          simp [Array.getD, show j < L.size by omega] at hLj ⊢
          exact hLj
        · have h1 := List.all_eq_true.1 h.ancs j (List.mem_range.2 (by omega))
          simp only [Bool.and_eq_true] at h1
          have : p < j := by simpa using List.all_eq_true.1 h1.1 p hp
          exact hlow p this
      rw [hr] at hm; cases hm
    · intro j hm
      obtain ⟨h1, h2, h3⟩ := mem_ready.1 hm
      have hj : j < ml.length := by omega
      have hLj : lst L j = false := by
        unfold lst
        simp [Array.getD, show j < L.size by omega] at h2 ⊢
        exact h2
      have ho : ops[j]? = some ops[j] := Array.getElem?_eq_getElem h1
      have fin : (if Region.wanted ops[j] (yielded ops a.tmps) then (ops[j]).wp P a w (wpAny P .any ops Q fuel (L.setIfInBounds j true)) Q else wpAny P .any ops Q fuel (L.setIfInBounds j true) (a.put (ops[j]).dst undef) w) := by
        have next : ∀ R' a' w' ι', DI ml ops st nt C ι0 w0 (fun i => if i = j then true else lst L i) R' a' w' ι' → wpAny P .any ops Q fuel (L.setIfInBounds j true) a' w' := by
          intro R' a' w' ι' d'
          refine ih _ R' a' w' ι' (by simp [hsz]) ?_ (by rw [lst_set (by omega)]; exact d')
          rw [lst_set (by omega)]
          have := unl_next hj hLj
          omega
        by_cases hc : clsOf ml j = 3
        · exact h.eff_step d hu hj hc hLj h3 hcall ho (next _)
        · exact h.calm_step d hu hj hc hLj h3 hcall ho (next _)
      unfold wpOp
      rw [ho]
      simp only
      by_cases hw : Region.wanted ops[j] (yielded ops a.tmps) = true
      · rw [if_pos hw] at fin ⊢
        exact .inl fin
      · rw [if_neg hw] at fin ⊢
        exact fin

theorem runTr_st : ∀ {l : List MO} {t : T} {H : AH} {tr : List (T × AH)}, runTr call l t H = some tr →
    tr.length = l.length + 1 ∧ tr[0]? = some (t, H) ∧ ∀ (k : Nat) mo, l[k]? = some mo → ∃ s s', tr[k]? = some s ∧ tr[k + 1]? = some s' ∧ stepO call mo s.1 s.2 = some s' := by
  intro l
  induction l with
  | nil => intro t H tr h; simp [runTr] at h; subst h; exact ⟨rfl, rfl, fun k mo hk => by simp at hk⟩
  | cons o l ih =>
    intro t H tr h
    simp only [runTr] at h
    split at h
    · rename_i t' H' hs
      split at h
      · rename_i tr' hr
        cases h
        obtain ⟨h1, h2, h3⟩ := ih hr
        refine ⟨by simp [h1], rfl, fun k mo hk => ?_⟩
        cases k with
        | zero =>
          simp at hk
          subst hk
          exact ⟨(t, H), (t', H'), rfl, by simpa using h2, hs⟩
        | succ k =>
          obtain ⟨s, s', a, b, c⟩ := h3 k mo (by simpa using hk)
          exact ⟨s, s', by simpa using a, by simpa using b, c⟩
      · cases h
    · cases h

end

/-- The region. -/
theorem draw_sound {P : Program} {nt : Nat} {ops : Array Oper} {ml : List MO} {call : CallF} {A : List Nat} (hm : P.follows .mixedOrders = true) (hcall : CallOk P call) (hg : CallGr call)
    (hml : ops.toList.mapM (compO P nt ops) = some ml) (hA : ancOk ops A = true) (hD : dataOk ml A = true) (hC : chainOk ml A = true)
    {C : Ctx} {ι : Inj} {H H' : AH} {w : World} {t t' : T} {a : Act} {top : Nat} (htr : TR nt ι t a) (hs : Sim C ι H w) (hu : Un top ι H) {tr : List (T × AH)} (hr : runTr call ml t H = some tr)
    (hck : ∀ p ∈ pairsOf ml A, ckPair ml tr p) (hlast : tr.getLast? = some (t', H')) (htop : H'.size ≤ top) {id : Nat} {Q : Exit → Act → World → Prop}
    (hQ : ∀ a' w' ι', TR nt ι' t' a' → Step C ι H w ι' H' w' → Q .normal a' w') : (Code.region id ops true).wp P Q a w := by
  obtain ⟨h1, h2, h3⟩ := runTr_st hr
  have hst : ∀ k, k < tr.length → tr[k]? = some (tr.getD k (t, H)) := by
    intro k hk
    simp [List.getD, List.getElem?_eq_getElem hk]
  have h : Run P nt ops ml call A (fun k => tr.getD k (t, H)) := by
    refine ⟨hml, hg, ?_, hA, hD, hC, ?_⟩
    · intro k mo hk
      obtain ⟨s, s', a, b, c⟩ := h3 k mo hk
      have e1 : tr.getD k (t, H) = s := by simp [List.getD, a]
      have e2 : tr.getD (k + 1) (t, H) = s' := by simp [List.getD, b]
      rw [e1, e2]; exact c
    · intro i e hie mo hi k hk
      have := hck (i, e) hie
      unfold ckPair at this
      have hlt : i < ml.length := by
        rcases Nat.lt_or_ge i ml.length with x | x
        · exact x
        · rw [List.getElem?_eq_none x] at hi; cases hi
      simp only [hi] at this
      cases g1 : tr[i]? with
      | none => simp [g1] at this
      | some s =>
        cases g2 : tr[e]? with
        | none => simp [g1, g2] at this
        | some x =>
          cases g3 : tr[e + 1]? with
          | none => simp [g1, g2, g3] at this
          | some y =>
            simp only [g1, g2, g3] at this
            have e1 : tr.getD i (t, H) = s := by simp [List.getD, g1]
            have e2 : tr.getD e (t, H) = x := by simp [List.getD, g2]
            have e3 : tr.getD (e + 1) (t, H) = y := by simp [List.getD, g3]
            rw [e2, e3]
            exact this k (by rw [e1] at hk; exact hk)
  have hlen := h.len
  have s0 : (fun k => tr.getD k (t, H)) 0 = (t, H) := by simp [List.getD, h2]
  have sn : (fun k => tr.getD k (t, H)) ml.length = (t', H') := by
    have : tr.getLast? = tr[ml.length]? := by rw [List.getLast?_eq_getElem?, h1]; rfl
    rw [this] at hlast
    simp [List.getD, hlast]
  generalize (fun k => tr.getD k (t, H)) = st at h s0 sn
  refine wp_region_any hm ?_
  have hz : szs st ml.length = H'.size := by simp [szs, sn]
  have hz0 : szs st 0 = H.size := by simp [szs, s0]
  refine h.finish (C := C) (ι0 := ι) (w0 := { w with drawn := w.drawn + 1 }) ?_ hcall ?_ ops.size (Array.replicate ops.size false) 0 a _ ι (by simp) ?_ ?_
  · rw [hz, s0]
    exact fun i x y => hu i x (by omega)
  · intro a' w' ι' x y
    rw [sn] at x
    rw [sn, s0] at y
    refine hQ a' w' ι' x ?_
    have hsame := step_same hs (Same.drew w)
    exact hsame.trans y (top := top) hu htop
  · have : lst (Array.replicate ops.size false) = fun _ => false := by
      funext i
      simp [lst, Array.getD]
    rw [this, ← hlen]
    simp [unl]
  · have hl : lst (Array.replicate ops.size false) = fun _ => false := by
      funext i
      simp [lst, Array.getD]
    rw [hl]
    have hgetR : ∀ i, (KR ml st 0).get i = if i < szs st ml.length then cont ml st 0 i else none := fun i => range_get
    have hs' := (step_same hs (Same.drew w)).sim
    have hlo : H.lo ≤ H'.size := by
      have h1 := hs.lo
      have h2 := h.mono (Nat.zero_le ml.length) (Nat.le_refl _)
      rw [s0, sn] at h2
      have h2' : H.size ≤ H'.size := h2
      omega
    have hc0 : ∀ i L, ι i = some L → ∀ b, (KR ml st 0).get i = some b → H.get i = some b := by
      intro i L hi b hb
      rw [hgetR] at hb
      split at hb
      · rename_i hin
        by_cases hlt : i < szs st 0
        · obtain ⟨f1, f2⟩ := h.fi_lt (Nat.zero_le _) hlt
          unfold cont at hb
          rw [show max 0 (fi (szs st) i ml.length) = 0 by omega, s0] at hb
          exact hb
        · rw [hz0] at hlt
          rw [hz] at hin
          have := hu i (by omega) (by omega)
          rw [hi] at this; cases this
      · cases hb
    have hsz : (KR ml st 0).size = H'.size := by simp [KR, AH.size, hz]
    have hkl : (KR ml st 0).lo = H.lo := by simp [KR, s0]
    have simK : Sim C ι (KR ml st 0) { w with drawn := w.drawn + 1 } :=
      ⟨hs'.below, hs'.top, by rw [hkl]; exact hs'.ro, by rw [hkl, hsz]; exact hlo, fun i L b x y => hs'.live i L b x (hc0 i L x b y), hs'.own, hs'.arg, hs'.inw, fun i j L M x y r1 r2 hne g1 g2 => by
        obtain ⟨b1, e1⟩ := Option.isSome_iff_exists.1 g1
        obtain ⟨b2, e2⟩ := Option.isSome_iff_exists.1 g2
        exact hs'.dis i j L M x y r1 r2 hne (by rw [hc0 i L x b1 e1]; rfl) (by rw [hc0 j M y b2 e2]; rfl), hs'.dr⟩
    refine ⟨Nat.zero_le _, by rw [hz0, s0]; exact hs.lo, fun e _ _ => by simp, fun j _ hj => by simp at hj, ?_, ?_, ?_, ?_⟩
    · have : cur ml st (fun _ => false) = t := by
        funext x
        unfold cur
        rw [if_neg (by rintro ⟨k, _, hk, _⟩; cases hk), s0]
      rw [this]
      exact htr
    · intro i M hi
      rw [hz0, hz]
      by_cases hlt : i < H.size
      · exact .inl hlt
      · right; right
        by_cases h2 : H'.size ≤ i
        · exact h2
        · have := hu i (by omega) (by omega)
          rw [hi] at this; cases this
    · intro i M hi x y
      rw [hz0] at x
      rw [hz] at y
      have := hu i x (by omega)
      rw [hi] at this; cases this
    · rw [s0]
      exact ⟨.refl ι, fun i L x y => (by rw [y] at x; cases x), by rw [hsz]; have := hs.lo; have h2 := h.mono (Nat.zero_le ml.length) (Nat.le_refl _); rw [s0, sn] at h2; exact h2, hkl, Nat.le_refl _, fun _ _ _ => rfl, simK⟩

end Go.AE
set_option linter.unusedVariables false
namespace Go.AE
open Go.RowKit (Below)

/-- Code that the evaluator does not pass: it stands for a region that panics. -/
def stuckC : MC := .ops [⟨none, .call (.const (.bool false)) [], none⟩]
theorem exec_stuck {n : Nat} {call : CallF} {t : T} {H : AH} : exec n call stuckC t H = none := by
  simp [stuckC, exec, runOps, stepO, wantedA, aopc, ev]
def panics (o : Oper) : Bool := match o.op with | .panic _ => true | _ => false

def compC (P : Program) (nt : Nat) : Code → Option MC
  | .skip => some .skip
  | .region _ ops draw => (match ops.toList.mapM (compO P nt ops) with
    | none => grd (ops.toList.any panics) (some stuckC)
    | some ml => (match draw with
      | true => grd (ancOk ops (mkAnc ops) && dataOk ml (mkAnc ops) && chainOk ml (mkAnc ops)) (some (.draw ml (pairsOf ml (mkAnc ops))))
      | false => some (.ops ml)))
  | .seq a b => (match compC P nt a, compC P nt b with | some x, some y => some (.seq x y) | _, _ => none)
  | .cond c a b => grd (okX nt c) (match compC P nt a, compC P nt b with | some x, some y => some (.cond c x y) | _, _ => none)
  | .block id b => (match compC P nt b with | some x => some (.block id x) | none => none)
  | .loop b => (match compC P nt b with | some x => some (.loop x) | none => none)
  | .exit id => some (.exit id)
  | .ret => some .ret
  | _ => none

def compR (P : Program) (nt : Nat) : ResultVar → Option MRes
  | .tmp t => grd (t < nt) (some (.tmp t))
  | .cell a ty => grd (a < nt) (match aggOf P ty with | some g => some (.cell g a) | none => none)

def compF (P : Program) (f : Nat) : Option MF :=
  match P.funcs[f]? with
  | none => none
  | some fn => grd (fn.name != "runtime.NumGoroutine") (match fn.body with
    | none => none
    | some c => (match compC P fn.ntmps c, fn.results.toList.mapM (compR P fn.ntmps) with
      | some mc, some rs => some ⟨fn.ntmps, mc, rs⟩
      | _, _ => none))

def AX.toExit : AX → Exit
  | .normal => .normal
  | .exit id => .exit id
  | .ret => .ret

theorem iter_gr {f : T → AH → RC} (hf : ∀ t H x t' H', f t H = some (x, t', H') → Gr H H') : ∀ {n : Nat} {t t' : T} {H H' : AH} {x : AX}, iter f n t H = some (x, t', H') → Gr H H' := by
  intro n
  induction n with
  | zero => intro t t' H H' x h; simp [iter] at h
  | succ n ih =>
    intro t t' H H' x h
    simp only [iter] at h
    split at h
    · rename_i t1 H1 h1
      exact (hf _ _ _ _ _ h1).trans (ih h)
    · exact hf _ _ _ _ _ h

theorem runTr_gr {call : CallF} (hg : CallGr call) : ∀ {l : List MO} {t t' : T} {H H' : AH} {tr : List (T × AH)}, runTr call l t H = some tr → tr.getLast? = some (t', H') → Gr H H' := by
  intro l
  induction l with
  | nil => intro t t' H H' tr h hl; simp [runTr] at h; subst h; simp at hl; rw [← hl.2]; exact .refl _
  | cons o l ih =>
    intro t t' H H' tr h hl
    simp only [runTr] at h
    split at h
    · rename_i t1 H1 h1
      split at h
      · rename_i tr' hr
        cases h
        have hne : tr' ≠ [] := by
          intro e
          have := (runTr_st hr).1
          rw [e] at this; simp at this
        rw [List.getLast?_cons_of_ne_nil hne] at hl
        exact (stepO_gr hg h1).trans (ih hr hl)
      · cases h
    · cases h

theorem exec_gr {call : CallF} (hg : CallGr call) {n : Nat} : ∀ {c : MC} {t t' : T} {H H' : AH} {x : AX}, exec n call c t H = some (x, t', H') → Gr H H' := by
  intro c
  induction c with
  | skip => intro t t' H H' x h; simp [exec] at h; rw [← h.2.2]; exact .refl _
  | exit id => intro t t' H H' x h; simp [exec] at h; rw [← h.2.2]; exact .refl _
  | ret => intro t t' H H' x h; simp [exec] at h; rw [← h.2.2]; exact .refl _
  | ops l =>
    intro t t' H H' x h
    simp only [exec] at h
    split at h
    · rename_i h1; cases h; exact runOps_gr hg h1
    · cases h
  | draw l ps =>
    intro t t' H H' x h
    simp only [exec] at h
    split at h
    · rename_i tr h1
      split at h
      · split at h
        · rename_i h2; cases h; exact runTr_gr hg h1 h2
        · cases h
      · cases h
    · cases h
  | seq a b iha ihb =>
    intro t t' H H' x h
    simp only [exec] at h
    split at h
    · rename_i h1; exact (iha h1).trans (ihb h)
    · exact iha h
  | cond c a b iha ihb =>
    intro t t' H H' x h
    simp only [exec] at h
    split at h
    · exact iha h
    · exact ihb h
    · cases h
  | block id b ih =>
    intro t t' H H' x h
    simp only [exec] at h
    split at h
    · rename_i h1
      split at h <;> cases h <;> exact ih h1
    · exact ih h
  | loop b ih =>
    intro t t' H H' x h
    simp only [exec] at h
    exact iter_gr (fun t H x t' H' h => ih h) h

section
variable {P : Program} {nt : Nat} {call : CallF} {C : Ctx}

theorem exec_sound (hm : P.follows .mixedOrders = true) (hcall : CallOk P call) (hg : CallGr call) {n : Nat} : ∀ (c : Code) (mc : MC), compC P nt c = some mc →
    ∀ {ι : Inj} {H H' : AH} {w : World} {t t' : T} {a : Act} {x : AX} {top : Nat}, exec n call mc t H = some (x, t', H') → TR nt ι t a → Sim C ι H w → Un top ι H → H'.size ≤ top →
      ∀ {Q : Exit → Act → World → Prop}, (∀ a' w' ι', TR nt ι' t' a' → Step C ι H w ι' H' w' → Q x.toExit a' w') → c.wp P Q a w := by
  intro c
  induction c with
  | skip =>
    intro mc hc ι H H' w t t' a x top he htr hs hu htop Q hQ
    cases hc
    simp only [exec, Option.some.injEq, Prod.mk.injEq] at he
    obtain ⟨rfl, rfl, rfl⟩ := he
    exact wp_skip (hQ a w ι htr (.refl hs))
  | exit id =>
    intro mc hc ι H H' w t t' a x top he htr hs hu htop Q hQ
    cases hc
    simp only [exec, Option.some.injEq, Prod.mk.injEq] at he
    obtain ⟨rfl, rfl, rfl⟩ := he
    exact wp_exit (hQ a w ι htr (.refl hs))
  | ret =>
    intro mc hc ι H H' w t t' a x top he htr hs hu htop Q hQ
    cases hc
    simp only [exec, Option.some.injEq, Prod.mk.injEq] at he
    obtain ⟨rfl, rfl, rfl⟩ := he
    exact wp_ret (hQ a w ι htr (.refl hs))
  | region id ops draw =>
    intro mc hc ι H H' w t t' a x top he htr hs hu htop Q hQ
    simp only [compC] at hc
    split at hc
    · obtain ⟨_, hc⟩ := grd_some hc
      cases hc
      rw [exec_stuck] at he; cases he
    · rename_i ml hml
      cases draw with
      | true =>
        obtain ⟨hb, hc⟩ := grd_some hc
        cases hc
        simp only [Bool.and_eq_true] at hb
        simp only [exec] at he
        split at he
        · rename_i tr htrc
          split at he
          · rename_i hck
            split at he
            · rename_i hl
              cases he
              exact draw_sound hm hcall hg hml hb.1.1 hb.1.2 hb.2 htr hs hu htrc hck hl htop hQ
            · cases he
          · cases he
        · cases he
      | false =>
        cases hc
        simp only [exec] at he
        split at he
        · rename_i t1 H1 hr
          cases he
          exact wp_region_list (runOps_sound hcall hg ops.toList ml hml htr hs hu hr htop hQ)
        · cases he
  | seq c1 c2 ih1 ih2 =>
    intro mc hc ι H H' w t t' a x top he htr hs hu htop Q hQ
    simp only [compC] at hc
    split at hc
    · rename_i m1 m2 h1 h2
      cases hc
      simp only [exec] at he
      split at he
      · rename_i t1 H1 hr
        have g2 := exec_gr hg he
        refine wp_seq (ih1 m1 h1 hr htr hs hu (Nat.le_trans g2.size htop) fun a' w' ι' htr' st => ?_)
        exact ih2 m2 h2 he htr' st.sim (st.un hu) htop fun a2 w2 ι2 htr2 st2 => hQ a2 w2 ι2 htr2 (st.trans st2 hu htop)
      · rename_i hne
        refine wp_seq (ih1 m1 h1 he htr hs hu htop fun a' w' ι' htr' st => ?_)
        cases x with
        | normal => exact absurd he (hne t' H')
        | exit id => exact hQ a' w' ι' htr' st
        | ret => exact hQ a' w' ι' htr' st
    · cases hc
  | cond cx c1 c2 ih1 ih2 =>
    intro mc hc ι H H' w t t' a x top he htr hs hu htop Q hQ
    obtain ⟨hx, hc⟩ := grd_some hc
    split at hc
    · rename_i m1 m2 h1 h2
      cases hc
      have hv := htr.ev hx
      simp only [exec] at he
      split at he
      · rename_i e
        rw [e] at hv
        generalize hb : a.eval cx = v at hv
        cases hv
        exact wp_cond_true hb (ih1 m1 h1 he htr hs hu htop hQ)
      · rename_i e
        rw [e] at hv
        generalize hb : a.eval cx = v at hv
        cases hv
        exact wp_cond_false hb (ih2 m2 h2 he htr hs hu htop hQ)
      · cases he
    · cases hc
  | block id b ih =>
    intro mc hc ι H H' w t t' a x top he htr hs hu htop Q hQ
    simp only [compC] at hc
    split at hc
    · rename_i m1 h1
      cases hc
      simp only [exec] at he
      split at he
      · rename_i j t1 H1 hr
        split at he
        · rename_i e
          subst e
          cases he
          exact wp_block (ih m1 h1 hr htr hs hu htop fun a' w' ι' htr' st => by
            simpa [Exit.inBlock, AX.toExit] using hQ a' w' ι' htr' st)
        · rename_i e
          cases he
          exact wp_block (ih m1 h1 hr htr hs hu htop fun a' w' ι' htr' st => by
            simpa [Exit.inBlock, AX.toExit, e] using hQ a' w' ι' htr' st)
      · rename_i hne
        refine wp_block (ih m1 h1 he htr hs hu htop fun a' w' ι' htr' st => ?_)
        cases x with
        | normal => exact hQ a' w' ι' htr' st
        | exit j => exact absurd he (hne j t' H')
        | ret => exact hQ a' w' ι' htr' st
    · cases hc
  | loop b ih =>
    intro mc hc ι H H' w t t' a x top he htr hs hu htop Q hQ
    simp only [compC] at hc
    split at hc
    · rename_i m1 h1
      cases hc
      simp only [exec] at he
      refine wp_loop_rounds n ?_
      have key : ∀ (q : Nat) {ι : Inj} {H : AH} {w : World} {t : T} {a : Act}, iter (exec n call m1) q t H = some (x, t', H') → TR nt ι t a → Sim C ι H w → Un top ι H →
          (∀ a' w' ι', TR nt ι' t' a' → Step C ι H w ι' H' w' → Q x.toExit a' w') → Code.rounds P b Q q a w := by
        intro q
        induction q with
        | zero => intro ι H w t a h; simp [iter] at h
        | succ q ihq =>
          intro ι H w t a h htr hs hu hQ
          simp only [iter] at h
          rw [rounds_succ]
          split at h
          · rename_i t1 H1 hr
            have g2 := iter_gr (fun t H x t' H' h => exec_gr hg h) h
            refine ih m1 h1 hr htr hs hu (Nat.le_trans g2.size htop) fun a' w' ι' htr' st => ?_
            exact ihq h htr' st.sim (st.un hu) fun a2 w2 ι2 htr2 st2 => hQ a2 w2 ι2 htr2 (st.trans st2 hu htop)
          · rename_i hne
            refine ih m1 h1 h htr hs hu htop fun a' w' ι' htr' st => ?_
            cases x with
            | normal => exact absurd h (hne t' H')
            | exit id => exact hQ a' w' ι' htr' st
            | ret => exact hQ a' w' ι' htr' st
      exact key n he htr hs hu hQ
    · cases hc
  | _ => intro mc hc; simp [compC] at hc

theorem res_sound {ι : Inj} {H : AH} {w : World} (hs : Sim C ι H w) {t : T} {a : Act} (htr : TR nt ι t a) : ∀ (rs : List ResultVar) (ms : List MRes), rs.mapM (compR P nt) = some ms → ∀ vs, resAll ms t H = some vs →
    ∃ vs', (rs.mapM (fun r => match r with
      | .tmp t => pure (a.tmps.getD t undef)
      | .cell x t => do loadVar t (← asAddr (a.tmps.getD x undef)) : ResultVar → Sem Value)).run P w = .ok vs' w ∧ VRL ι vs vs' := by
  intro rs
  induction rs with
  | nil => intro ms hm vs hv; simp at hm; subst hm; simp [resAll] at hv; subst hv; exact ⟨[], by simp, .nil ι⟩
  | cons r rs ih =>
    intro ms hm vs hv
    simp only [List.mapM_cons, Option.bind_eq_bind, Option.pure_def] at hm
    cases hr : compR P nt r with
    | none => simp [hr] at hm
    | some m =>
      cases hrs : rs.mapM (compR P nt) with
      | none => simp [hr, hrs] at hm
      | some ms' =>
        simp [hr, hrs] at hm
        subst hm
        simp only [resAll] at hv
        split at hv
        · rename_i v vs1 h1 h2
          cases hv
          obtain ⟨vs', e1, e2⟩ := ih ms' hrs vs1 h2
          cases r with
          | tmp i =>
            obtain ⟨hlt, hr⟩ := grd_some hr
            cases hr
            simp only [resOf, Option.some.injEq] at h1
            subst h1
            exact ⟨a.tmps.getD i undef :: vs', by simp only [List.mapM_cons, Sem.run_bind, Sem.run_pure, Result.andThen_ok, e1], .cons (htr.2 i (of_decide_eq_true hlt)) e2⟩
          | cell x ty =>
            obtain ⟨hlt, hr⟩ := grd_some hr
            split at hr
            · rename_i g hga
              cases hr
              simp only [resOf] at h1
              have hp := htr.2 x (of_decide_eq_true hlt)
              obtain ⟨v', q1, q2⟩ := op_load (P := P) hs hga hp h1
              have q3 : (do loadVar ty (← asAddr (a.tmps.getD x undef)) : Sem Value).run P w = .ok v' w := by
                unfold opLoad at h1
                split at h1
                · rename_i p hpe
                  rw [hpe] at hp
                  generalize a.tmps.getD x undef = y at hp q1
                  cases hp
                  simpa [Instr.loadAt, Instr.sureAddr, asAddr] using q1
                · cases h1
              exact ⟨v' :: vs', by
                simp only [List.mapM_cons]
                rw [Sem.run_bind, q3]
                simp only [Result.andThen_ok, Sem.run_bind, Sem.run_pure, e1], .cons q2 e2⟩
            · cases hr
        · cases hv

end

/-! ### calls -/

abbrev Ext := List Value → AH → Option (Value × AH)

/-- What stands for a function that is not entered. -/
structure ExtOk (P : Program) (f : Nat) (e : Ext) : Prop where
  gr : ∀ args H v H', e args H = some (v, H') → Gr H H'
  sem : ∀ args H v H', e args H = some (v, H') → ∀ (C : Ctx) (ι : Inj) (w : World) (args' : List Value) (top : Nat), VRL ι args args' → Sim C ι H w → Un top ι H → H'.size ≤ top →
    CallSem P f args'.toArray w fun v' w' => ∃ ι', VR ι' v v' ∧ Step C ι H w ι' H' w'

def XOk (P : Program) (X : Nat → Option Ext) : Prop := ∀ f e, X f = some e → ExtOk P f e

theorem tup_vr {ι : Inj} {vs vs' : List Value} (h : VRL ι vs vs') : VR ι (tup vs) (if hs : vs'.toArray.size = 1 then vs'.toArray[0] else .tuple vs'.toArray) := by
  have hl := h.1
  match vs, vs' with
  | [], [] => exact .tuple rfl fun j a => by simp at a
  | [v], [v'] => exact h.2 0 (by simp) (by simp)
  | v :: u :: r, v' :: u' :: r' =>
    simp only [tup]
    rw [dif_neg (by simp)]
    have := h.toArray
    exact .tuple this.1 this.2
  | [], _ :: _ => simp at hl
  | _ :: _, [] => simp at hl
  | [v], _ :: _ :: _ => simp at hl
  | _ :: _ :: _, [v] => simp at hl

theorem callK_ok {P : Program} (hm : P.follows .mixedOrders = true) {X : Nat → Option Ext} (hX : XOk P X) : ∀ k, CallOk P (callK (compF P) X k) ∧ CallGr (callK (compF P) X k) := by
  intro k
  induction k with
  | zero => exact ⟨fun f args H v H' h => by simp [callK] at h, fun f args H v H' h => by simp [callK] at h⟩
  | succ k ih =>
    obtain ⟨ihc, ihg⟩ := ih
    constructor
    · intro f args H v H' h C ι w args' top hargs hs hu htop
      simp only [callK] at h
      split at h
      · rename_i e he
        exact (hX f e he).sem args H v H' h C ι w args' top hargs hs hu htop
      · split at h
        · cases h
        · rename_i m hF
          split at h
          · cases h
          · rename_i hlen
            unfold compF at hF
            split at hF
            · cases hF
            · rename_i fn hfn
              obtain ⟨hname, hF⟩ := grd_some hF
              split at hF
              · cases hF
              · rename_i c hb
                split at hF
                · rename_i mc rs hmc hrs
                  cases hF
                  have htr : TR fn.ntmps ι (T.init args) { tmps := args'.toArray ++ Array.replicate (fn.ntmps - args'.toArray.size) undef, defers := [] } := by
                    have hl := hargs.1
                    have hlen' : args.length ≤ fn.ntmps := Nat.le_of_not_lt hlen
                    refine ⟨⟨by simp; omega, rfl⟩, fun i hi => ?_⟩
                    have hget : (args'.toArray ++ Array.replicate (fn.ntmps - args'.toArray.size) undef).getD i undef = args'.getD i undef := by
                      by_cases hlt : i < args'.length
                      · simp [Array.getD, List.getD, hlt, show i < args'.length + (fn.ntmps - args'.length) by omega, Array.getElem_append]
                      · simp [Array.getD, List.getD, hlt, show i < args'.length + (fn.ntmps - args'.length) by omega, Array.getElem_append]
                    rw [show ({ tmps := args'.toArray ++ Array.replicate (fn.ntmps - args'.toArray.size) undef, defers := [] } : Act).tmps.getD i undef = args'.getD i undef from hget]
                    exact hargs.getD (.undef ι) i
                  have key : ∀ (x : AX) (t' : T) (H1 : AH), exec k (callK (compF P) X k) mc (T.init args) H = some (x, t', H1) → (x = .normal ∨ x = .ret) →
                      ∀ vs, resAll rs t' H1 = some vs → (v, H') = (tup vs, H1) → CallSem P f args'.toArray w fun v' w' => ∃ ι', VR ι' v v' ∧ Step C ι H w ι' H' w' := by
                    intro x t' H1 he hx vs hvs e
                    cases e
                    refine .inl ⟨?_, ?_⟩
                    · have hn : fn.name ≠ "runtime.NumGoroutine" := by simpa using hname
                      have hn' : (fn.name == "runtime.NumGoroutine") = false := by simpa using hn
                      simp [callFunc, hfn, hb, hn]
                    · refine calls_of_wp hfn hb (exec_sound hm ihc ihg c mc hmc he htr hs hu htop fun a' w' ι' htr' st => ?_)
                      obtain ⟨vs', q1, q2⟩ := res_sound (P := P) st.sim htr' fn.results.toList rs hrs vs hvs
                      have hres : (results fn a'.tmps).run P w' = .ok (if hs : vs'.toArray.size = 1 then vs'.toArray[0] else .tuple vs'.toArray) w' := by
                        simp only [results, Array.mapM_eq_mapM_toList]
                        rw [Sem.run_bind]
                        have : ∀ (s : Sem (List Value)), s.run P w' = .ok vs' w' → (List.toArray <$> s).run P w' = .ok vs'.toArray w' := by
                          intro s hs
                          simp [hs]
                        exact (congrArg (fun (r : Result (Array Value)) => r.andThen fun a w' => Sem.run P (pure (if h : a.size = 1 then a[0] else Value.tuple a)) w') (this _ q1)).trans rfl
                      have hd := htr'.1.2
                      rcases hx with rfl | rfl
                      · exact ⟨hd, _, hres, _, rfl, ι', tup_vr q2, st⟩
                      · exact ⟨hd, _, hres, _, rfl, ι', tup_vr q2, st⟩
                  cases he : exec k (callK (compF P) X k) mc (T.init args) H with
                  | none => simp [he] at h
                  | some r =>
                    obtain ⟨x, t', H1⟩ := r
                    simp only [he] at h
                    cases x with
                    | exit id => cases h
                    | normal =>
                      simp only at h
                      cases hvs : resAll rs t' H1 with
                      | none => simp [hvs] at h
                      | some vs =>
                        simp only [hvs, Option.some.injEq] at h
                        exact key .normal t' H1 he (.inl rfl) vs hvs h.symm
                    | ret =>
                      simp only at h
                      cases hvs : resAll rs t' H1 with
                      | none => simp [hvs] at h
                      | some vs =>
                        simp only [hvs, Option.some.injEq] at h
                        exact key .ret t' H1 he (.inr rfl) vs hvs h.symm
                · cases hF
    · intro f args H v H' h
      simp only [callK] at h
      split at h
      · rename_i e he
        exact (hX f e he).gr args H v H' h
      · split at h
        · cases h
        · split at h
          · cases h
          · split at h
            · cases h
            · rename_i hx
              split at h
              · cases h; exact exec_gr ihg hx
              · cases h
            · cases h

end Go.AE
set_option linter.unusedVariables false
namespace Go.AE

def LeC (c d : CallF) : Prop := ∀ f args H r, c f args H = some r → d f args H = some r

theorem aopc_le {c d : CallF} (h : LeC c d) {m : MOp} {e : Operand → Value} {H : AH} {r : Value × AH} (hr : aopc c m e H = some r) : aopc d m e H = some r := by
  cases m with
  | call f args =>
    simp only [aopc] at hr ⊢
    split at hr
    · exact h _ _ _ _ hr
    · cases hr
  | _ => exact hr

theorem stepO_le {c d : CallF} (h : LeC c d) {o : MO} {t : T} {H : AH} {r : T × AH} (hr : stepO c o t H = some r) : stepO d o t H = some r := by
  unfold stepO at hr ⊢
  split at hr
  · rename_i hw
    rw [if_pos hw]
    split at hr
    · rename_i v H' hv
      rw [aopc_le h hv]; exact hr
    · cases hr
  · rename_i hw
    rw [if_neg hw]; exact hr

theorem runOps_le {c d : CallF} (h : LeC c d) : ∀ {l : List MO} {t : T} {H : AH} {r : T × AH}, runOps c l t H = some r → runOps d l t H = some r := by
  intro l
  induction l with
  | nil => intro t H r hr; exact hr
  | cons o l ih =>
    intro t H r hr
    simp only [runOps] at hr ⊢
    split at hr
    · rename_i t' H' hs
      rw [stepO_le h hs]; exact ih hr
    · cases hr

theorem runTr_le {c d : CallF} (h : LeC c d) : ∀ {l : List MO} {t : T} {H : AH} {r : List (T × AH)}, runTr c l t H = some r → runTr d l t H = some r := by
  intro l
  induction l with
  | nil => intro t H r hr; exact hr
  | cons o l ih =>
    intro t H r hr
    simp only [runTr] at hr ⊢
    split at hr
    · rename_i t' H' hs
      rw [stepO_le h hs]
      split at hr
      · rename_i l' hl
        simp only [ih hl]; exact hr
      · cases hr
    · cases hr

theorem iter_le {f g : T → AH → RC} (h : ∀ t H r, f t H = some r → g t H = some r) : ∀ {n m : Nat} {t : T} {H : AH} {r : AX × T × AH}, n ≤ m → iter f n t H = some r → iter g m t H = some r := by
  intro n
  induction n with
  | zero => intro m t H r _ hr; simp [iter] at hr
  | succ n ih =>
    intro m t H r hm hr
    obtain ⟨m, rfl⟩ : ∃ q, m = q + 1 := ⟨m - 1, by omega⟩
    simp only [iter] at hr ⊢
    cases hf : f t H with
    | none => simp [hf] at hr
    | some q =>
      obtain ⟨x, t', H'⟩ := q
      rw [h _ _ _ hf]
      simp only [hf] at hr
      cases x with
      | normal => exact ih (by omega) hr
      | exit id => exact hr
      | ret => exact hr

theorem exec_le {c d : CallF} (h : LeC c d) {n m : Nat} (hnm : n ≤ m) : ∀ {p : MC} {t : T} {H : AH} {r : AX × T × AH}, exec n c p t H = some r → exec m d p t H = some r := by
  intro p
  induction p with
  | skip => intro t H r hr; exact hr
  | exit id => intro t H r hr; exact hr
  | ret => intro t H r hr; exact hr
  | ops l =>
    intro t H r hr
    simp only [exec] at hr ⊢
    split at hr
    · rename_i h1; rw [runOps_le h h1]; exact hr
    · cases hr
  | draw l ps =>
    intro t H r hr
    simp only [exec] at hr ⊢
    split at hr
    · rename_i tr h1
      rw [runTr_le h h1]
      exact hr
    · cases hr
  | seq a b iha ihb =>
    intro t H r hr
    simp only [exec] at hr ⊢
    cases ha : exec n c a t H with
    | none => simp [ha] at hr
    | some q =>
      obtain ⟨x, t', H'⟩ := q
      rw [iha ha]
      simp only [ha] at hr
      cases x with
      | normal => exact ihb hr
      | exit id => exact hr
      | ret => exact hr
  | cond x a b iha ihb =>
    intro t H r hr
    simp only [exec] at hr ⊢
    split at hr
    · exact iha hr
    · exact ihb hr
    · cases hr
  | block id b ih =>
    intro t H r hr
    simp only [exec] at hr ⊢
    cases hb : exec n c b t H with
    | none => simp [hb] at hr
    | some q =>
      obtain ⟨x, t', H'⟩ := q
      rw [ih hb]
      simp only [hb] at hr
      exact hr
  | loop b ih =>
    intro t H r hr
    simp only [exec] at hr ⊢
    exact iter_le (fun t H r hr => ih hr) hnm hr

theorem callK_le {F : Nat → Option MF} {X : Nat → Option Ext} : ∀ {n m : Nat}, n ≤ m → LeC (callK F X n) (callK F X m) := by
  intro n
  induction n with
  | zero => intro m _ f args H r hr; simp [callK] at hr
  | succ n ih =>
    intro m hm f args H r hr
    obtain ⟨m, rfl⟩ : ∃ q, m = q + 1 := ⟨m - 1, by omega⟩
    simp only [callK] at hr ⊢
    cases hX : X f with
    | some e => simp only [hX] at hr ⊢; exact hr
    | none =>
      simp only [hX] at hr ⊢
      cases hF : F f with
      | none => simp [hF] at hr
      | some mf =>
        simp only [hF] at hr ⊢
        by_cases hlen : mf.nt < args.length
        · rw [if_pos hlen] at hr; cases hr
        · rw [if_neg hlen] at hr ⊢
          cases hx : exec n (callK F X n) mf.body (T.init args) H with
          | none => simp [hx] at hr
          | some q =>
            rw [exec_le (ih (by omega)) (by omega) hx]
            simp only [hx] at hr
            exact hr

end Go.AE
