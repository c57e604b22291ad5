/- Rules to run the evaluator on what is not known in full; no condition. What code leaves of the temporaries, and loops that count; no condition. Values: strings as lists of bytes, numbers within bounds, slices in a heap; no condition. What stands for functions of Go's library: sorting, comparing, leaving out equals; no condition. Plain facts on lists; no condition. Appends to slices of one's own, and lists turned in place; no condition. Bundles of rules; no condition. Bits of numbers; no condition. Parts of a heap that lie apart; no condition. From a call's arguments to a plain heap, and from what the evaluator computes to the call; no condition. Arguments of a row as slices, numbers and texts; no condition. -/
import Derived.Test.YtiklnoodcgippaaGreatAeb
import Derived.Sort.Walk0
import Derived.WalkKit
import Derived.ProofKit
import Derived.OpenShut
import Derived.ShutString
import Derived.ChangeOld
import Derived.SizedLaws
import Derived.Deep.Strs
import Derived.ChangeSame
import Derived.Carry
set_option linter.unusedSimpArgs false
set_option linter.unusedVariables false
set_option linter.unusedSectionVars false
set_option linter.unusedVariables false
namespace Go.AE

structure Env where
  P : Program
  X : Nat → Option Ext

noncomputable def Env.call (E : Env) (k : Nat) : CallF := callK (compF E.P) E.X k

theorem Env.call_le (E : Env) {n m : Nat} (h : n ≤ m) : LeC (E.call n) (E.call m) := callK_le h

abbrev Post := AX → T → AH → Prop
abbrev CPost := Value → AH → Prop

def ACalls (E : Env) (f : Nat) (args : List Value) (H : AH) (Q : CPost) : Prop := ∃ k v H', E.call k f args H = some (v, H') ∧ Q v H'
def AWP (E : Env) (c : MC) (t : T) (H : AH) (Q : Post) : Prop := ∃ k x t' H', exec k (E.call k) c t H = some (x, t', H') ∧ Q x t' H'
def AOps (E : Env) (l : List MO) (t : T) (H : AH) (Q : Post) : Prop := ∃ k t' H', runOps (E.call k) l t H = some (t', H') ∧ Q .normal t' H'

def Sq (E : Env) (b : MC) (Q : Post) : Post
  | .normal, t, H => AWP E b t H Q
  | x, t, H => Q x t H
def Blkp (id : Nat) (Q : Post) : Post
  | .exit j, t, H => if j = id then Q .normal t H else Q (.exit j) t H
  | x, t, H => Q x t H
def AClo (E : Env) (f : Value) (args : List Value) (H : AH) (Q : CPost) : Prop :=
  match f with
  | .func (.func g) first captured => ACalls E g (first.toList ++ args ++ captured.toList) H Q
  | _ => False
def Kc (E : Env) (d : Option Nat) (r : List MO) (t : T) (Q : Post) : CPost := fun v H => AOps E r (t.upO d v) H Q
def AVH (E : Env) (d : Option Nat) (r : List MO) (t : T) (Q : Post) (o : Option (Value × AH)) : Prop :=
  match o with
  | some (v, H) => AOps E r (t.upO d v) H Q
  | none => False
def AGd (E : Env) (v : Value) (b : Bool) (d : Option Nat) (op : MOp) (r : List MO) (t : T) (H : AH) (Q : Post) : Prop :=
  match v with
  | .bool c => if (c == b) = true then AOps E (⟨d, op, none⟩ :: r) t H Q else AOps E r (t.upO d undef) H Q
  | _ => AOps E r (t.upO d undef) H Q
def ACond (E : Env) (v : Value) (a b : MC) (t : T) (H : AH) (Q : Post) : Prop :=
  match v with
  | .bool true => AWP E a t H Q
  | .bool false => AWP E b t H Q
  | _ => False
def FinR (rs : List MRes) (acc : List Value) (Q : CPost) (t : T) (H : AH) : Prop :=
  ∃ vs, resAll rs t H = some vs ∧ Q (tup (acc ++ vs)) H
def Fin (rs : List MRes) (Q : CPost) : Post
  | .exit _, _, _ => False
  | _, t, H => FinR rs [] Q t H
def oV (o : Option Value) (H : AH) : Option (Value × AH) := match o with | some v => some (v, H) | none => none
def oH (o : Option AH) : Option (Value × AH) := match o with | some H => some (undef, H) | none => none
def oP (o : Option (Value × AH)) : Option (Value × AH) := o

theorem AWP.imp {E : Env} {c : MC} {t : T} {H : AH} {Q Q' : Post} (h : AWP E c t H Q) (hi : ∀ x t H, Q x t H → Q' x t H) : AWP E c t H Q' := by
  obtain ⟨k, x, t', H', h1, h2⟩ := h
  exact ⟨k, x, t', H', h1, hi _ _ _ h2⟩

theorem ACalls.imp {E : Env} {f : Nat} {args : List Value} {H : AH} {Q Q' : CPost} (h : ACalls E f args H Q) (hi : ∀ v H, Q v H → Q' v H) : ACalls E f args H Q' := by
  obtain ⟨k, v, H', h1, h2⟩ := h
  exact ⟨k, v, H', h1, hi _ _ h2⟩

theorem AOps.imp {E : Env} {l : List MO} {t : T} {H : AH} {Q Q' : Post} (h : AOps E l t H Q) (hi : ∀ t H, Q .normal t H → Q' .normal t H) : AOps E l t H Q' := by
  obtain ⟨k, t', H', h1, h2⟩ := h
  exact ⟨k, t', H', h1, hi _ _ h2⟩

theorem exec_le' {E : Env} {n m : Nat} (hnm : n ≤ m) {p : MC} {t : T} {H : AH} {r : AX × T × AH} (h : exec n (E.call n) p t H = some r) : exec m (E.call m) p t H = some r :=
  exec_le (E.call_le hnm) hnm h
theorem runOps_le' {E : Env} {n m : Nat} (hnm : n ≤ m) {l : List MO} {t : T} {H : AH} {r : T × AH} (h : runOps (E.call n) l t H = some r) : runOps (E.call m) l t H = some r :=
  runOps_le (E.call_le hnm) h

variable {E : Env}

/-! ### code -/

theorem AWP_skip {t : T} {H : AH} {Q : Post} : Q .normal t H → AWP E .skip t H Q := fun h => ⟨0, .normal, t, H, by simp [exec], h⟩
theorem AWP_ret {t : T} {H : AH} {Q : Post} : Q .ret t H → AWP E .ret t H Q := fun h => ⟨0, .ret, t, H, by simp [exec], h⟩
theorem AWP_exit {id : Nat} {t : T} {H : AH} {Q : Post} : Q (.exit id) t H → AWP E (.exit id) t H Q := fun h => ⟨0, .exit id, t, H, by simp [exec], h⟩

theorem AWP_ops_eq {l : List MO} {t : T} {H : AH} {Q : Post} : AWP E (.ops l) t H Q = AOps E l t H Q := by
  apply propext
  constructor
  · rintro ⟨k, x, t', H', h, hq⟩
    simp only [exec] at h
    split at h
    · rename_i t2 H2 hr
      cases h
      exact ⟨k, _, _, hr, hq⟩
    · cases h
  · rintro ⟨k, t', H', h, hq⟩
    exact ⟨k, .normal, t', H', by simp only [exec, h], hq⟩

theorem AWP_skip_eq {t : T} {H : AH} {Q : Post} : AWP E .skip t H Q = Q .normal t H := by
  apply propext; constructor
  · rintro ⟨k, x, t', H', h, hq⟩
    simp only [exec] at h; cases h; exact hq
  · exact AWP_skip
theorem AWP_ret_eq {t : T} {H : AH} {Q : Post} : AWP E .ret t H Q = Q .ret t H := by
  apply propext; constructor
  · rintro ⟨k, x, t', H', h, hq⟩
    simp only [exec] at h; cases h; exact hq
  · exact AWP_ret
theorem AWP_exit_eq {id : Nat} {t : T} {H : AH} {Q : Post} : AWP E (.exit id) t H Q = Q (.exit id) t H := by
  apply propext; constructor
  · rintro ⟨k, x, t', H', h, hq⟩
    simp only [exec] at h; cases h; exact hq
  · exact AWP_exit

theorem AWP_seq_eq {a b : MC} {t : T} {H : AH} {Q : Post} : AWP E (.seq a b) t H Q = AWP E a t H (Sq E b Q) := by
  apply propext
  constructor
  · rintro ⟨k, x, t', H', h, hq⟩
    simp only [exec] at h
    split at h
    · rename_i t2 H2 hr
      exact ⟨k, _, _, _, hr, ⟨k, _, _, _, h, hq⟩⟩
    · rename_i r hne
      refine ⟨k, _, _, _, h, ?_⟩
      cases x with
      | normal => exact absurd h (by intro hc; exact hne _ _ hc)
      | _ => exact hq
  · rintro ⟨k, x, t', H', h, hq⟩
    cases x with
    | normal =>
      obtain ⟨k2, x2, t2, H2, h2, hq2⟩ := hq
      have e1 := exec_le' (Nat.le_max_left k k2) h
      have e2 := exec_le' (Nat.le_max_right k k2) h2
      exact ⟨max k k2, x2, t2, H2, by simp only [exec, e1, e2], hq2⟩
    | exit j => exact ⟨k, _, t', H', by simp only [exec, h], hq⟩
    | ret => exact ⟨k, _, t', H', by simp only [exec, h], hq⟩

theorem AWP_cond_eq {c : Operand} {a b : MC} {t : T} {H : AH} {Q : Post} : AWP E (.cond c a b) t H Q = ACond E (ev t c) a b t H Q := by
  apply propext
  constructor
  · rintro ⟨k, x, t', H', h, hq⟩
    simp only [exec] at h
    split at h
    · rename_i hv; rw [hv]; exact ⟨k, _, _, _, h, hq⟩
    · rename_i hv; rw [hv]; exact ⟨k, _, _, _, h, hq⟩
    · cases h
  · intro h
    unfold ACond at h
    split at h
    · rename_i hv
      obtain ⟨k, x, t', H', h1, hq⟩ := h
      exact ⟨k, x, t', H', by simp only [exec, hv, h1], hq⟩
    · rename_i hv
      obtain ⟨k, x, t', H', h1, hq⟩ := h
      exact ⟨k, x, t', H', by simp only [exec, hv, h1], hq⟩
    · cases h

theorem AWP_block_eq {id : Nat} {b : MC} {t : T} {H : AH} {Q : Post} : AWP E (.block id b) t H Q = AWP E b t H (Blkp id Q) := by
  apply propext
  constructor
  · rintro ⟨k, x, t', H', h, hq⟩
    simp only [exec] at h
    split at h
    · rename_i j t2 H2 hr
      refine ⟨k, _, _, _, hr, ?_⟩
      simp only [Blkp]
      split at h
      · rename_i hj; cases h; rw [if_pos hj]; exact hq
      · rename_i hj; cases h; rw [if_neg hj]; exact hq
    · rename_i r hne
      refine ⟨k, _, _, _, h, ?_⟩
      cases x with
      | exit j => exact absurd h (by intro hc; exact hne _ _ _ hc)
      | _ => exact hq
  · rintro ⟨k, x, t', H', h, hq⟩
    cases x with
    | exit j =>
      simp only [Blkp] at hq
      split at hq
      · rename_i hj
        exact ⟨k, _, t', H', by simp only [exec, h, if_pos hj], hq⟩
      · rename_i hj
        exact ⟨k, _, t', H', by simp only [exec, h, if_neg hj], hq⟩
    | normal => exact ⟨k, _, t', H', by simp only [exec, h], hq⟩
    | ret => exact ⟨k, _, t', H', by simp only [exec, h], hq⟩

/-- A loop: an invariant with a count of the rounds still to come at most. -/
def Lp (I : Nat → T → AH → Prop) (n : Nat) (Q : Post) : Post
  | .normal, t, H => ∃ m, m < n ∧ I m t H
  | x, t, H => Q x t H

theorem AWP_loop {b : MC} {Q : Post} (I : Nat → T → AH → Prop) (hs : ∀ n t H, I n t H → AWP E b t H (Lp I n Q)) : ∀ n {t : T} {H : AH}, I n t H → AWP E (.loop b) t H Q := by
  intro n
  induction n using Nat.strongRecOn with
  | _ n ih =>
    intro t H h
    obtain ⟨k, x, t', H', h1, hq⟩ := hs n t H h
    cases x with
    | normal =>
      obtain ⟨m, hm, hI⟩ := hq
      obtain ⟨k2, x2, t2, H2, h2, hq2⟩ := ih m hm hI
      have e1 := exec_le' (Nat.le_max_left k k2) h1
      have e2 := exec_le' (Nat.le_max_right k k2) h2
      simp only [exec] at e2
      refine ⟨max k k2 + 1, x2, t2, H2, ?_, hq2⟩
      have e1' := exec_le' (Nat.le_succ (max k k2)) e1
      simp only [exec, iter, e1']
      exact iter_le (fun t H r hr => exec_le' (Nat.le_succ _) hr) (Nat.le_refl _) e2
    | exit j =>
      refine ⟨k + 1, _, t', H', ?_, hq⟩
      simp only [exec, iter, exec_le' (Nat.le_succ k) h1]
    | ret =>
      refine ⟨k + 1, _, t', H', ?_, hq⟩
      simp only [exec, iter, exec_le' (Nat.le_succ k) h1]

/-- A loop that counts up: an invariant at each count. -/
def Up (I : Nat → T → AH → Prop) (N n : Nat) (Q : Post) : Post
  | .normal, t, H => n < N ∧ I (n + 1) t H
  | x, t, H => Q x t H

theorem AWP_up {b : MC} {Q : Post} (I : Nat → T → AH → Prop) (N : Nat) {t : T} {H : AH} (h0 : I 0 t H)
    (hs : ∀ n t H, n ≤ N → I n t H → AWP E b t H (Up I N n Q)) : AWP E (.loop b) t H Q := by
  refine AWP_loop (fun m t H => m ≤ N ∧ I (N - m) t H) ?_ N ⟨Nat.le_refl _, by rwa [Nat.sub_self]⟩
  rintro m t H ⟨hm, hI⟩
  refine (hs (N - m) t H (Nat.sub_le _ _) hI).imp ?_
  intro x t' H' h
  cases x with
  | normal =>
    obtain ⟨h1, h2⟩ := h
    refine ⟨m - 1, by omega, by omega, ?_⟩
    rwa [show N - (m - 1) = N - m + 1 by omega]
  | _ => exact h

theorem Sq_normal {b : MC} {Q : Post} {t : T} {H : AH} : Sq E b Q .normal t H = AWP E b t H Q := rfl
theorem Sq_ret {b : MC} {Q : Post} {t : T} {H : AH} : Sq E b Q .ret t H = Q .ret t H := rfl
theorem Sq_exit {b : MC} {Q : Post} {j : Nat} {t : T} {H : AH} : Sq E b Q (.exit j) t H = Q (.exit j) t H := rfl
theorem Blkp_normal {id : Nat} {Q : Post} {t : T} {H : AH} : Blkp id Q .normal t H = Q .normal t H := rfl
theorem Blkp_ret {id : Nat} {Q : Post} {t : T} {H : AH} : Blkp id Q .ret t H = Q .ret t H := rfl
theorem Blkp_exit {id j : Nat} {Q : Post} {t : T} {H : AH} : Blkp id Q (.exit j) t H = if j = id then Q .normal t H else Q (.exit j) t H := rfl
theorem Up_normal {I : Nat → T → AH → Prop} {N n : Nat} {Q : Post} {t : T} {H : AH} : Up I N n Q .normal t H = (n < N ∧ I (n + 1) t H) := rfl
theorem Up_ret {I : Nat → T → AH → Prop} {N n : Nat} {Q : Post} {t : T} {H : AH} : Up I N n Q .ret t H = Q .ret t H := rfl
theorem Up_exit {I : Nat → T → AH → Prop} {N n : Nat} {Q : Post} {j : Nat} {t : T} {H : AH} : Up I N n Q (.exit j) t H = Q (.exit j) t H := rfl
theorem Lp_normal {I : Nat → T → AH → Prop} {n : Nat} {Q : Post} {t : T} {H : AH} : Lp I n Q .normal t H = ∃ m, m < n ∧ I m t H := rfl
theorem Lp_ret {I : Nat → T → AH → Prop} {n : Nat} {Q : Post} {t : T} {H : AH} : Lp I n Q .ret t H = Q .ret t H := rfl
theorem Lp_exit {I : Nat → T → AH → Prop} {n : Nat} {Q : Post} {j : Nat} {t : T} {H : AH} : Lp I n Q (.exit j) t H = Q (.exit j) t H := rfl

theorem ACond_true {a b : MC} {t : T} {H : AH} {Q : Post} : ACond E (.bool true) a b t H Q = AWP E a t H Q := rfl
theorem ACond_false {a b : MC} {t : T} {H : AH} {Q : Post} : ACond E (.bool false) a b t H Q = AWP E b t H Q := rfl
theorem ACond_split {c : Bool} {a b : MC} {t : T} {H : AH} {Q : Post} (h1 : c = true → AWP E a t H Q) (h0 : c = false → AWP E b t H Q) : ACond E (.bool c) a b t H Q := by
  cases c
  · exact h0 rfl
  · exact h1 rfl

/-! ### operations -/

theorem AOps_nil {t : T} {H : AH} {Q : Post} : AOps E [] t H Q = Q .normal t H := by
  apply propext; constructor
  · rintro ⟨k, t', H', h, hq⟩
    simp only [runOps] at h; cases h; exact hq
  · intro h; exact ⟨0, t, H, rfl, h⟩

theorem AOps_cons {o : MO} {r : List MO} {t : T} {H : AH} {Q : Post} (k : Nat) {t' : T} {H' : AH} (h : stepO (E.call k) o t H = some (t', H')) (hr : AOps E r t' H' Q) : AOps E (o :: r) t H Q := by
  obtain ⟨k2, t2, H2, h2, hq⟩ := hr
  refine ⟨max k k2, t2, H2, ?_, hq⟩
  simp only [runOps, stepO_le (E.call_le (Nat.le_max_left k k2)) h, runOps_le' (Nat.le_max_right k k2) h2]

theorem AOps_cons_iff {o : MO} {r : List MO} {t : T} {H : AH} {Q : Post} : AOps E (o :: r) t H Q ↔ ∃ k t' H', stepO (E.call k) o t H = some (t', H') ∧ AOps E r t' H' Q := by
  constructor
  · rintro ⟨k, t', H', h, hq⟩
    simp only [runOps] at h
    split at h
    · rename_i t2 H2 hs
      exact ⟨k, t2, H2, hs, k, t', H', h, hq⟩
    · cases h
  · rintro ⟨k, t', H', h, hr⟩
    exact AOps_cons k h hr

theorem AOps_op {d : Option Nat} {op : MOp} {r : List MO} {t : T} {H : AH} {Q : Post} (hc : ∀ c, aopc c op (ev t) H = aop op (ev t) H) :
    AOps E (⟨d, op, none⟩ :: r) t H Q = AVH E d r t Q (aop op (ev t) H) := by
  apply propext
  rw [AOps_cons_iff]
  simp only [stepO, wantedA, if_true, hc]
  constructor
  · rintro ⟨k, t', H', h, hq⟩
    split at h
    · rename_i v H2 hv
      cases h
      rw [hv]; exact hq
    · cases h
  · intro h
    unfold AVH at h
    split at h
    · rename_i v H' hv
      exact ⟨0, _, _, by simp only [hv], h⟩
    · cases h

theorem AOps_call {d : Option Nat} {f : Operand} {args : List Operand} {r : List MO} {t : T} {H : AH} {Q : Post} :
    AOps E (⟨d, .call f args, none⟩ :: r) t H Q = AClo E (ev t f) (args.map (ev t)) H (Kc E d r t Q) := by
  apply propext
  rw [AOps_cons_iff]
  simp only [stepO, wantedA, if_true, aopc]
  constructor
  · rintro ⟨k, t', H', h, hq⟩
    unfold AClo
    split at h
    · rename_i v H2 hv
      cases h
      split at hv
      · rename_i he
        rw [he]; exact ⟨k, _, _, hv, hq⟩
      · cases hv
    · cases h
  · intro h
    unfold AClo at h
    split at h
    · rename_i g first cap he
      obtain ⟨k, v, H', h1, hq⟩ := h
      refine ⟨k, _, _, ?_, hq⟩
      rw [he]; simp only [h1]
    · cases h

theorem AOps_guard {d : Option Nat} {op : MOp} {j : Nat} {b : Bool} {r : List MO} {t : T} {H : AH} {Q : Post} :
    AOps E (⟨d, op, some (j, b)⟩ :: r) t H Q = AGd E (t j) b d op r t H Q := by
  have hskip : wantedA (some (j, b)) t = false → AOps E (⟨d, op, some (j, b)⟩ :: r) t H Q = AOps E r (t.upO d undef) H Q := by
    intro hw
    apply propext
    rw [AOps_cons_iff]
    simp only [stepO, hw]
    constructor
    · rintro ⟨k, t', H', h, hq⟩
      cases h; exact hq
    · intro h; exact ⟨0, _, _, rfl, h⟩
  unfold AGd
  split
  · rename_i c hc
    split
    · rename_i h
      apply propext
      rw [AOps_cons_iff, AOps_cons_iff]
      simp only [stepO, wantedA, hc, h, if_true]
    · rename_i h
      exact hskip (by simp only [wantedA, hc]; exact Bool.eq_false_iff.mpr h)
  · rename_i hn
    refine hskip ?_
    cases hv : t j with
    | bool c => exact absurd hv (hn c)
    | _ => simp only [wantedA, hv]

theorem AGd_tt {d : Option Nat} {op : MOp} {r : List MO} {t : T} {H : AH} {Q : Post} : AGd E (.bool true) true d op r t H Q = AOps E (⟨d, op, none⟩ :: r) t H Q := rfl
theorem AGd_ff {d : Option Nat} {op : MOp} {r : List MO} {t : T} {H : AH} {Q : Post} : AGd E (.bool false) false d op r t H Q = AOps E (⟨d, op, none⟩ :: r) t H Q := rfl
theorem AGd_tf {d : Option Nat} {op : MOp} {r : List MO} {t : T} {H : AH} {Q : Post} : AGd E (.bool true) false d op r t H Q = AOps E r (t.upO d undef) H Q := rfl
theorem AGd_ft {d : Option Nat} {op : MOp} {r : List MO} {t : T} {H : AH} {Q : Post} : AGd E (.bool false) true d op r t H Q = AOps E r (t.upO d undef) H Q := rfl
theorem AGd_undef {b : Bool} {d : Option Nat} {op : MOp} {r : List MO} {t : T} {H : AH} {Q : Post} : AGd E undef b d op r t H Q = AOps E r (t.upO d undef) H Q := rfl
theorem AGd_split {c b : Bool} {d : Option Nat} {op : MOp} {r : List MO} {t : T} {H : AH} {Q : Post} (h1 : c = true → AGd E (.bool true) b d op r t H Q) (h0 : c = false → AGd E (.bool false) b d op r t H Q) :
    AGd E (.bool c) b d op r t H Q := by
  cases c
  · exact h0 rfl
  · exact h1 rfl

theorem AVH_some {d : Option Nat} {r : List MO} {t : T} {Q : Post} {v : Value} {H : AH} : AVH E d r t Q (some (v, H)) = AOps E r (t.upO d v) H Q := rfl
theorem AVH_oV {d : Option Nat} {r : List MO} {t : T} {Q : Post} {v : Value} {H : AH} : AVH E d r t Q (oV (some v) H) = AOps E r (t.upO d v) H Q := rfl
theorem AVH_oH {d : Option Nat} {r : List MO} {t : T} {Q : Post} {H : AH} : AVH E d r t Q (oH (some H)) = AOps E r (t.upO d undef) H Q := rfl
theorem AClo_plain {g : Nat} {args : List Value} {H : AH} {Q : CPost} : AClo E (.func (.func g) #[] #[]) args H Q = ACalls E g args H Q := by simp [AClo]
theorem AClo_cap {g : Nat} {cap : Array Value} {args : List Value} {H : AH} {Q : CPost} : AClo E (.func (.func g) #[] cap) args H Q = ACalls E g (args ++ cap.toList) H Q := by simp [AClo]
theorem Kc_eq {d : Option Nat} {r : List MO} {t : T} {Q : Post} {v : Value} {H : AH} : Kc E d r t Q v H = AOps E r (t.upO d v) H Q := rfl

theorem w_mv {d : Option Nat} {x : Operand} {r : List MO} {t : T} {H : AH} {Q : Post} : AOps E (⟨d, .mv x, none⟩ :: r) t H Q = AOps E r (t.upO d (ev t x)) H Q := by rw [AOps_op (fun _ => rfl)]; rfl
def opPick (c a b : Value) : Option Value := match c with | .bool true => some a | .bool false => some b | _ => none
theorem opPick_bool {c : Bool} {a b : Value} : opPick (.bool c) a b = some (cond c a b) := by cases c <;> rfl
theorem w_pick {d : Option Nat} {c a b : Operand} {r : List MO} {t : T} {H : AH} {Q : Post} : AOps E (⟨d, .pick c a b, none⟩ :: r) t H Q = AVH E d r t Q (oV (opPick (ev t c) (ev t a) (ev t b)) H) := by
  rw [AOps_op (fun _ => rfl)]
  simp only [aop, opPick, oV]
  cases ev t c with
  | bool b => cases b <;> rfl
  | _ => rfl
theorem w_alloc {d : Option Nat} {z : List Value} {r : List MO} {t : T} {H : AH} {Q : Post} : AOps E (⟨d, .alloc z, none⟩ :: r) t H Q = AOps E r (t.upO d (.pointer (some ⟨H.size, 0, none⟩))) (H.alloc ⟨z, 0⟩) Q := by rw [AOps_op (fun _ => rfl)]; rfl
theorem w_box {d : Option Nat} {x : Operand} {r : List MO} {t : T} {H : AH} {Q : Post} : AOps E (⟨d, .box x, none⟩ :: r) t H Q = AOps E r (t.upO d (.pointer (some ⟨H.size, 0, none⟩))) (H.alloc ⟨(ev t x).cells.toList, 0⟩) Q := by rw [AOps_op (fun _ => rfl)]; rfl
def opBuild (z : Array Value) (ps : Array (Nat × Nat)) (l : List (Nat × Value)) : Option Value := match Instr.fill (ps[·]?) z l with | some cs => some (.agg cs) | none => none
theorem w_build {d : Option Nat} {z : Array Value} {ps : Array (Nat × Nat)} {l : List (Nat × Operand)} {r : List MO} {t : T} {H : AH} {Q : Post} :
    AOps E (⟨d, .build z ps l, none⟩ :: r) t H Q = AVH E d r t Q (oV (opBuild z ps (l.map fun p => (p.1, ev t p.2))) H) := by
  rw [AOps_op (fun _ => rfl)]
  simp only [aop, opBuild, oV]
  cases Instr.fill (ps[·]?) z (l.map fun p => (p.1, ev t p.2)) <;> rfl
def opBuildSlice (es n : Nat) (z : Array Value) (l : List (Nat × Value)) (H : AH) : Option (Value × AH) :=
  match Instr.fill (fun i => some (i * es, es)) ((Array.range (n * es)).map (z[· % z.size]!)) l with
  | some cs => some (.slice (some ⟨H.size, 0, none⟩) n n, H.alloc ⟨cs.toList, es⟩)
  | none => none
theorem w_buildSlice {d : Option Nat} {es n : Nat} {z : Array Value} {l : List (Nat × Operand)} {r : List MO} {t : T} {H : AH} {Q : Post} :
    AOps E (⟨d, .buildSlice es n z l, none⟩ :: r) t H Q = AVH E d r t Q (opBuildSlice es n z (l.map fun p => (p.1, ev t p.2)) H) := by
  rw [AOps_op (fun _ => rfl)]
  rfl
theorem w_load {d : Option Nat} {g : Option Nat} {a : Operand} {r : List MO} {t : T} {H : AH} {Q : Post} : AOps E (⟨d, .load g a, none⟩ :: r) t H Q = AVH E d r t Q (oV (opLoad g (ev t a) H) H) := by
  rw [AOps_op (fun _ => rfl)]; rfl
theorem w_store {d : Option Nat} {n : Nat} {a x : Operand} {r : List MO} {t : T} {H : AH} {Q : Post} : AOps E (⟨d, .store n a x, none⟩ :: r) t H Q = AVH E d r t Q (oH (opStore n (ev t a) (ev t x) H)) := by
  rw [AOps_op (fun _ => rfl)]; rfl
def opNil (x : Value) : Option Value := match x with | .pointer (some a) => some (.pointer (some a)) | _ => none
theorem w_nilCheck {d : Option Nat} {x : Operand} {r : List MO} {t : T} {H : AH} {Q : Post} : AOps E (⟨d, .nilCheck x, none⟩ :: r) t H Q = AVH E d r t Q (oV (opNil (ev t x)) H) := by
  rw [AOps_op (fun _ => rfl)]
  simp only [aop]
  cases ev t x with
  | pointer a => cases a <;> rfl
  | _ => rfl
theorem w_bin {d : Option Nat} {kd : Nat} {cst : Bool} {op : BinOp} {x y : Operand} {r : List MO} {t : T} {H : AH} {Q : Post} : AOps E (⟨d, .bin kd cst op x y, none⟩ :: r) t H Q = AVH E d r t Q (oV (opBin kd cst op (ev t x) (ev t y)) H) := by
  rw [AOps_op (fun _ => rfl)]; rfl
theorem w_un {d : Option Nat} {op : UnOp} {x : Operand} {r : List MO} {t : T} {H : AH} {Q : Post} : AOps E (⟨d, .un op x, none⟩ :: r) t H Q = AVH E d r t Q (oV (opUn op (ev t x)) H) := by
  rw [AOps_op (fun _ => rfl)]; rfl
theorem w_conv {d : Option Nat} {k : IntKind} {x : Operand} {r : List MO} {t : T} {H : AH} {Q : Post} : AOps E (⟨d, .conv k x, none⟩ :: r) t H Q = AVH E d r t Q (oV (opConv k (ev t x)) H) := by
  rw [AOps_op (fun _ => rfl)]; rfl
theorem w_bytesToStr {d : Option Nat} {x : Operand} {r : List MO} {t : T} {H : AH} {Q : Post} : AOps E (⟨d, .bytesToStr x, none⟩ :: r) t H Q = AVH E d r t Q (oV (opBytesToStr (ev t x) H) H) := by
  rw [AOps_op (fun _ => rfl)]; rfl
theorem w_mkFunc {d : Option Nat} {fn : Fn} {a b : List Operand} {r : List MO} {t : T} {H : AH} {Q : Post} : AOps E (⟨d, .mkFunc fn a b, none⟩ :: r) t H Q = AOps E r (t.upO d (.func fn (a.map (ev t)).toArray (b.map (ev t)).toArray)) H Q := by
  rw [AOps_op (fun _ => rfl)]; rfl
theorem w_makeSlice {d : Option Nat} {es b : Nat} {z : Array Value} {l c : Operand} {r : List MO} {t : T} {H : AH} {Q : Post} : AOps E (⟨d, .makeSlice es b z l c, none⟩ :: r) t H Q = AVH E d r t Q (opMakeSlice es b z (ev t l) (ev t c) H) := by
  rw [AOps_op (fun _ => rfl)]; rfl
theorem w_sliceStr {d : Option Nat} {x : Operand} {l h : Option Operand} {r : List MO} {t : T} {H : AH} {Q : Post} : AOps E (⟨d, .sliceStr x l h, none⟩ :: r) t H Q = AVH E d r t Q (oV (opSliceStr (ev t x) (l.map (ev t)) (h.map (ev t))) H) := by
  rw [AOps_op (fun _ => rfl)]; rfl
theorem w_sliceSl {d : Option Nat} {es : Nat} {x : Operand} {l h : Option Operand} {r : List MO} {t : T} {H : AH} {Q : Post} : AOps E (⟨d, .sliceSl es x l h, none⟩ :: r) t H Q = AVH E d r t Q (oV (opSliceSl es (ev t x) (l.map (ev t)) (h.map (ev t)) H) H) := by
  rw [AOps_op (fun _ => rfl)]; rfl
theorem w_fieldAddr {d : Option Nat} {off : Nat} {x : Operand} {r : List MO} {t : T} {H : AH} {Q : Post} : AOps E (⟨d, .fieldAddr off x, none⟩ :: r) t H Q = AVH E d r t Q (oV (opFieldAddr off (ev t x)) H) := by
  rw [AOps_op (fun _ => rfl)]; rfl
theorem w_field {d : Option Nat} {g : Option Nat} {off : Nat} {x : Operand} {r : List MO} {t : T} {H : AH} {Q : Post} : AOps E (⟨d, .field g off x, none⟩ :: r) t H Q = AVH E d r t Q (oV (opField g off (ev t x)) H) := by
  rw [AOps_op (fun _ => rfl)]; rfl
theorem w_indexAddr {d : Option Nat} {es : Nat} {x i : Operand} {r : List MO} {t : T} {H : AH} {Q : Post} : AOps E (⟨d, .indexAddr es x i, none⟩ :: r) t H Q = AVH E d r t Q (oV (opIndexAddr es (ev t x) (ev t i)) H) := by
  rw [AOps_op (fun _ => rfl)]; rfl
theorem w_indexStr {d : Option Nat} {x i : Operand} {r : List MO} {t : T} {H : AH} {Q : Post} : AOps E (⟨d, .indexStr x i, none⟩ :: r) t H Q = AVH E d r t Q (oV (opIndexStr (ev t x) (ev t i)) H) := by
  rw [AOps_op (fun _ => rfl)]; rfl
theorem w_extract {d : Option Nat} {x : Operand} {i : Nat} {r : List MO} {t : T} {H : AH} {Q : Post} : AOps E (⟨d, .extract x i, none⟩ :: r) t H Q = AVH E d r t Q (oV (opExtract (ev t x) i) H) := by
  rw [AOps_op (fun _ => rfl)]; rfl
theorem w_len {d : Option Nat} {q : Bool} {x : Operand} {r : List MO} {t : T} {H : AH} {Q : Post} : AOps E (⟨d, .len q x, none⟩ :: r) t H Q = AVH E d r t Q (oV (opLen q (ev t x)) H) := by
  rw [AOps_op (fun _ => rfl)]; rfl
theorem w_append {d : Option Nat} {es b : Nat} {s x : Operand} {r : List MO} {t : T} {H : AH} {Q : Post} : AOps E (⟨d, .append es b s x, none⟩ :: r) t H Q = AVH E d r t Q (opAppend es b (ev t s) (ev t x) H) := by
  rw [AOps_op (fun _ => rfl)]; rfl
theorem w_copy {d : Option Nat} {es : Nat} {a s : Operand} {r : List MO} {t : T} {H : AH} {Q : Post} : AOps E (⟨d, .copy es a s, none⟩ :: r) t H Q = AVH E d r t Q (opCopy es (ev t a) (ev t s) H) := by
  rw [AOps_op (fun _ => rfl)]; rfl
theorem w_min2 {d : Option Nat} {x y : Operand} {r : List MO} {t : T} {H : AH} {Q : Post} : AOps E (⟨d, .min2 x y, none⟩ :: r) t H Q = AVH E d r t Q (oV (opMin (ev t x) (ev t y)) H) := by
  rw [AOps_op (fun _ => rfl)]; rfl
theorem w_max2 {d : Option Nat} {x y : Operand} {r : List MO} {t : T} {H : AH} {Q : Post} : AOps E (⟨d, .max2 x y, none⟩ :: r) t H Q = AVH E d r t Q (oV (opMax (ev t x) (ev t y)) H) := by
  rw [AOps_op (fun _ => rfl)]; rfl

/-! ### regions in open order -/

/-- The rest of a region in open order; 'acc': the states so far, the last one first. -/
def ADr (E : Env) (l0 : List MO) (ps : List (Nat × Nat)) (l : List MO) (acc : List (T × AH)) (t : T) (H : AH) (Q : Post) : Prop :=
  ∃ k tr, runTr (E.call k) l t H = some tr ∧ (∀ p ∈ ps, ckPair l0 (acc.reverse ++ tr) p) ∧ ∃ t' H', tr.getLast? = some (t', H') ∧ Q .normal t' H'

theorem AWP_draw {l : List MO} {ps : List (Nat × Nat)} {t : T} {H : AH} {Q : Post} (h : ADr E l ps l [] t H Q) : AWP E (.draw l ps) t H Q := by
  obtain ⟨k, tr, h1, h2, t', H', h3, hq⟩ := h
  refine ⟨k, .normal, t', H', ?_, hq⟩
  simp only [List.reverse_nil, List.nil_append] at h2
  simp only [exec, h1, if_pos h2, h3]

theorem ADr_nil {l0 : List MO} {ps : List (Nat × Nat)} {acc : List (T × AH)} {t : T} {H : AH} {Q : Post} (h : ∀ p ∈ ps, ckPair l0 ((t, H) :: acc).reverse p) (hq : Q .normal t H) : ADr E l0 ps [] acc t H Q :=
  ⟨0, [(t, H)], rfl, by simpa using h, t, H, rfl, hq⟩

/-- One operation of such a region: what the operation alone does, then the rest. -/
def Dk (E : Env) (l0 : List MO) (ps : List (Nat × Nat)) (r : List MO) (acc : List (T × AH)) (Q : Post) : Post
  | .normal, t, H => ADr E l0 ps r acc t H Q
  | _, _, _ => False

theorem ADr_cons {l0 : List MO} {ps : List (Nat × Nat)} {o : MO} {r : List MO} {acc : List (T × AH)} {t : T} {H : AH} {Q : Post} (h : AOps E [o] t H (Dk E l0 ps r ((t, H) :: acc) Q)) : ADr E l0 ps (o :: r) acc t H Q := by
  obtain ⟨k, t1, H1, h1, k2, tr, h2, h3, t', H', h4, hq⟩ := h
  have hs : stepO (E.call k) o t H = some (t1, H1) := by
    simp only [runOps] at h1
    split at h1
    · rename_i t2 H2 hs; cases h1; exact hs
    · cases h1
  refine ⟨max k k2, (t, H) :: tr, ?_, by simpa using h3, t', H', ?_, hq⟩
  · simp only [runTr, stepO_le (E.call_le (Nat.le_max_left k k2)) hs, runTr_le (E.call_le (Nat.le_max_right k k2)) h2]
  · cases tr with
    | nil => cases h4
    | cons a b => simpa using h4

theorem Dk_normal {l0 : List MO} {ps : List (Nat × Nat)} {r : List MO} {acc : List (T × AH)} {Q : Post} {t : T} {H : AH} : Dk E l0 ps r acc Q .normal t H = ADr E l0 ps r acc t H Q := rfl

theorem AWP_draw_eq {l : List MO} {ps : List (Nat × Nat)} {t : T} {H : AH} {Q : Post} : AWP E (.draw l ps) t H Q = ADr E l ps l [] t H Q := by
  apply propext
  refine ⟨?_, AWP_draw⟩
  rintro ⟨k, x, t', H', h, hq⟩
  simp only [exec] at h
  split at h
  · rename_i tr hr
    split at h
    · rename_i hc
      split at h
      · rename_i hl
        cases h
        exact ⟨k, tr, hr, by simpa using hc, _, _, hl, hq⟩
      · cases h
    · cases h
  · cases h
theorem ADr_cons_eq {l0 : List MO} {ps : List (Nat × Nat)} {o : MO} {r : List MO} {acc : List (T × AH)} {t : T} {H : AH} {Q : Post} : ADr E l0 ps (o :: r) acc t H Q = AOps E [o] t H (Dk E l0 ps r ((t, H) :: acc) Q) := by
  apply propext
  refine ⟨?_, ADr_cons⟩
  rintro ⟨k, tr, h1, h2, t', H', h3, hq⟩
  simp only [runTr] at h1
  split at h1
  · rename_i t2 H2 hs
    split at h1
    · rename_i l hl
      cases h1
      refine ⟨k, t2, H2, by simp only [runOps, hs], k, l, hl, by simpa using h2, t', H', ?_, hq⟩
      cases l with
      | nil =>
        exfalso
        cases r with
        | nil => simp [runTr] at hl
        | cons a b =>
          simp only [runTr] at hl
          split at hl
          · split at hl <;> cases hl
          · cases hl
      | cons a b => simpa using h3
    · cases h1
  · cases h1
theorem ADr_nil0 {l0 : List MO} {acc : List (T × AH)} {t : T} {H : AH} {Q : Post} : ADr E l0 [] [] acc t H Q = Q .normal t H := by
  apply propext
  constructor
  · rintro ⟨k, tr, h1, h2, t', H', h3, hq⟩
    simp only [runTr] at h1
    cases h1; cases h3; exact hq
  · intro h; exact ADr_nil (fun _ hp => nomatch hp) h
theorem ckPair_of {l : List MO} {tr : List (T × AH)} {p : Nat × Nat} {o : MO} {s a b : T × AH} (h1 : l[p.1]? = some o) (h2 : tr[p.1]? = some s) (h3 : tr[p.2]? = some a) (h4 : tr[p.2 + 1]? = some b)
    (h : ∀ k, readsBlk o.op (ev s.1) s.2 = some k → b.2.get k = a.2.get k) : ckPair l tr p := by
  simp only [ckPair, h1, h2, h3, h4]; exact h
theorem ck_nil {l : List MO} {tr : List (T × AH)} : ∀ p ∈ ([] : List (Nat × Nat)), ckPair l tr p := fun _ hp => nomatch hp
theorem ck_cons {l : List MO} {tr : List (T × AH)} {q : Nat × Nat} {r : List (Nat × Nat)} (h : ckPair l tr q) (hr : ∀ p ∈ r, ckPair l tr p) : ∀ p ∈ q :: r, ckPair l tr p := by
  intro p hp
  cases hp with
  | head => exact h
  | tail _ hp => exact hr p hp

/-! ### the results, and a call -/

theorem Fin_ret {rs : List MRes} {Q : CPost} {t : T} {H : AH} : Fin rs Q .ret t H = FinR rs [] Q t H := rfl
theorem Fin_normal {rs : List MRes} {Q : CPost} {t : T} {H : AH} : Fin rs Q .normal t H = FinR rs [] Q t H := rfl
theorem FinR_nil {acc : List Value} {Q : CPost} {t : T} {H : AH} : FinR [] acc Q t H = Q (tup acc) H := by
  simp [FinR, resAll]
theorem FinR_tmp {i : Nat} {rs : List MRes} {acc : List Value} {Q : CPost} {t : T} {H : AH} : FinR (.tmp i :: rs) acc Q t H = FinR rs (acc ++ [t i]) Q t H := by
  apply propext
  simp only [FinR, resAll, resOf]
  constructor
  · rintro ⟨vs, h, hq⟩
    split at h
    · rename_i v vs' e1 e2
      cases h; cases e1
      exact ⟨_, e2, by simpa using hq⟩
    · cases h
  · rintro ⟨vs, h, hq⟩
    exact ⟨t i :: vs, by simp only [h], by simpa using hq⟩
def FinC (o : Option Value) (rs : List MRes) (acc : List Value) (Q : CPost) (t : T) (H : AH) : Prop := match o with | some v => FinR rs (acc ++ [v]) Q t H | none => False
theorem FinR_cell {g : Option Nat} {a : Nat} {rs : List MRes} {acc : List Value} {Q : CPost} {t : T} {H : AH} : FinR (.cell g a :: rs) acc Q t H = FinC (opLoad g (t a) H) rs acc Q t H := by
  apply propext
  simp only [FinR, FinC, resAll, resOf]
  constructor
  · rintro ⟨vs, h, hq⟩
    split at h
    · rename_i v vs' e1 e2
      cases h
      rw [e1]
      exact ⟨_, e2, by simpa using hq⟩
    · cases h
  · intro h
    split at h
    · rename_i v hv
      obtain ⟨vs, h, hq⟩ := h
      exact ⟨v :: vs, by simp only [h, hv], by simpa using hq⟩
    · cases h
theorem FinC_some {v : Value} {rs : List MRes} {acc : List Value} {Q : CPost} {t : T} {H : AH} : FinC (some v) rs acc Q t H = FinR rs (acc ++ [v]) Q t H := rfl

theorem ACalls_intro {f : Nat} {m : MF} {args : List Value} {H : AH} {Q : CPost} (hf : compF E.P f = some m) (hx : E.X f = none) (hn : args.length ≤ m.nt)
    (hb : AWP E m.body (T.init args) H (Fin m.res Q)) : ACalls E f args H Q := by
  obtain ⟨k, x, t', H', h, hq⟩ := hb
  have hr : ∃ vs, resAll m.res t' H' = some vs ∧ Q (tup vs) H' := by
    cases x with
    | exit j => exact hq.elim
    | normal => simpa [Fin, FinR] using hq
    | ret => simpa [Fin, FinR] using hq
  obtain ⟨vs, hv, hq'⟩ := hr
  refine ⟨k + 1, tup vs, H', ?_, hq'⟩
  unfold Env.call at h ⊢
  simp only [callK, hx, hf, if_neg (Nat.not_lt.mpr hn), h]
  cases x with
  | exit j => exact hq.elim
  | normal => simp only [hv]
  | ret => simp only [hv]

theorem ACalls_ext {f : Nat} {e : Ext} {args : List Value} {H H' : AH} {v : Value} {Q : CPost} (hx : E.X f = some e) (h : e args H = some (v, H')) (hq : Q v H') : ACalls E f args H Q := by
  refine ⟨1, v, H', ?_, hq⟩
  unfold Env.call
  simp only [callK, hx, h]

/-! ### temporaries -/

theorem up_app {t : T} {d i : Nat} {v : Value} : (t.up d v) i = bif i == d then v else t i := by
  by_cases h : i = d
  · simp [T.up, h]
  · rw [show (i == d) = false by simp [h]]
    simp [T.up, h]
theorem upO_some {t : T} {d : Nat} {v : Value} : t.upO (some d) v = t.up d v := rfl
theorem upO_none {t : T} {v : Value} : t.upO none v = t := rfl
theorem ev_tmp {t : T} {i : Nat} : ev t (.tmp i) = t i := rfl
theorem ev_const {t : T} {v : Value} : ev t (.const v) = v := rfl
theorem ev_func {t : T} {f : Nat} : ev t (.func f) = .func (.func f) #[] #[] := rfl
def Tz : T := fun _ => undef
theorem init0 : T.init [] = Tz := by funext i; simp [T.init, Tz]
theorem init1 {a : Value} : T.init [a] = Tz.up 0 a := by funext i; match i with | 0 => rfl | _ + 1 => rfl
theorem init2 {a b : Value} : T.init [a, b] = (Tz.up 0 a).up 1 b := by funext i; match i with | 0 => rfl | 1 => rfl | _ + 2 => rfl
theorem init3 {a b c : Value} : T.init [a, b, c] = ((Tz.up 0 a).up 1 b).up 2 c := by funext i; match i with | 0 => rfl | 1 => rfl | 2 => rfl | _ + 3 => rfl
theorem init4 {a b c d : Value} : T.init [a, b, c, d] = (((Tz.up 0 a).up 1 b).up 2 c).up 3 d := by funext i; match i with | 0 => rfl | 1 => rfl | 2 => rfl | 3 => rfl | _ + 4 => rfl
theorem init5 {a b c d e : Value} : T.init [a, b, c, d, e] = ((((Tz.up 0 a).up 1 b).up 2 c).up 3 d).up 4 e := by funext i; match i with | 0 => rfl | 1 => rfl | 2 => rfl | 3 => rfl | 4 => rfl | _ + 5 => rfl
theorem init6 {a b c d e f : Value} : T.init [a, b, c, d, e, f] = (((((Tz.up 0 a).up 1 b).up 2 c).up 3 d).up 4 e).up 5 f := by
  funext i; match i with | 0 => rfl | 1 => rfl | 2 => rfl | 3 => rfl | 4 => rfl | 5 => rfl | _ + 6 => rfl
theorem init7 {a b c d e f g : Value} : T.init [a, b, c, d, e, f, g] = ((((((Tz.up 0 a).up 1 b).up 2 c).up 3 d).up 4 e).up 5 f).up 6 g := by
  funext i; match i with | 0 => rfl | 1 => rfl | 2 => rfl | 3 => rfl | 4 => rfl | 5 => rfl | 6 => rfl | _ + 7 => rfl

theorem tup1 {v : Value} : tup [v] = v := rfl
theorem tup0 : tup [] = .tuple #[] := rfl
theorem tup2 {a b : Value} : tup [a, b] = .tuple #[a, b] := rfl
theorem tup3 {a b c : Value} : tup [a, b, c] = .tuple #[a, b, c] := rfl
theorem tup4 {a b c d : Value} : tup [a, b, c, d] = .tuple #[a, b, c, d] := rfl
theorem tup5 {a b c d e : Value} : tup [a, b, c, d, e] = .tuple #[a, b, c, d, e] := rfl

theorem vapp_nil {a : List Value} : [] ++ a = a := rfl
theorem vapp_cons {v : Value} {a b : List Value} : (v :: a) ++ b = v :: (a ++ b) := rfl
theorem vapp_r {a : List Value} : a ++ [] = a := List.append_nil a
theorem mev_nil {t : T} : List.map (ev t) [] = [] := rfl
theorem mev_cons {t : T} {x : Operand} {l : List Operand} : List.map (ev t) (x :: l) = ev t x :: List.map (ev t) l := rfl
theorem mep_nil {t : T} : List.map (fun p : Nat × Operand => (p.1, ev t p.2)) [] = [] := rfl
theorem mep_cons {t : T} {i : Nat} {x : Operand} {l : List (Nat × Operand)} : List.map (fun p : Nat × Operand => (p.1, ev t p.2)) ((i, x) :: l) = (i, ev t x) :: List.map (fun p : Nat × Operand => (p.1, ev t p.2)) l := rfl
theorem oev_some {t : T} {x : Operand} : Option.map (ev t) (some x) = some (ev t x) := rfl
theorem oev_none {t : T} : Option.map (ev t) none = none := rfl
theorem vcond_t {a b : Value} : cond true a b = a := rfl
theorem vcond_f {a b : Value} : cond false a b = b := rfl
theorem toNat_cast {n : Nat} : ((n : Int)).toNat = n := Int.toNat_natCast n
theorem not_t : (!true) = false := rfl
theorem not_f : (!false) = true := rfl
theorem cells1 {v : Value} (h : v.cells = #[v]) : v.cells.toList = [v] := by rw [h]

/-! ### what a call surely returns -/

/-- The result is v, the heap is as it was. -/
def Is (v : Value) (H : AH) : CPost := fun v' H' => v' = v ∧ H' = H
theorem ACalls.is {f : Nat} {args : List Value} {H H' : AH} {v : Value} {Q : CPost} (h : ACalls E f args H (Is v H')) (hq : Q v H') : ACalls E f args H Q :=
  h.imp fun _ _ ⟨e1, e2⟩ => by subst e1; subst e2; exact hq
theorem ACalls.eq {f : Nat} {args : List Value} {H H' : AH} {v : Value} {Q : CPost} (h : ACalls E f args H (Is v H')) : ACalls E f args H Q = Q v H' := by
  apply propext
  constructor
  · rintro ⟨k, v1, H1, h1, hq⟩
    obtain ⟨k2, v2, H2, h2, rfl, rfl⟩ := h
    have e1 := E.call_le (Nat.le_max_left k k2) _ _ _ _ h1
    have e2 := E.call_le (Nat.le_max_right k k2) _ _ _ _ h2
    rw [e1] at e2; cases e2; exact hq
  · exact h.is
theorem cells_agg {cs : Array Value} : (Value.agg cs).cells = cs := rfl
theorem arr_toList {l : List Value} : l.toArray.toList = l := rfl
theorem Is.mk {v v' : Value} {H : AH} (h : v' = v) : Is v H v' H := ⟨h, rfl⟩

end Go.AE
set_option linter.unusedVariables false
set_option linter.unusedSimpArgs false
namespace Go.AE

def MC.writes : MC → List Nat
  | .ops l => l.filterMap MO.dst
  | .draw l _ => l.filterMap MO.dst
  | .seq a b => a.writes ++ b.writes
  | .cond _ a b => a.writes ++ b.writes
  | .block _ b => b.writes
  | .loop b => b.writes
  | _ => []

/-- The temporaries outside a list are as they were. -/
def TSame (W : List Nat) (t t' : T) : Prop := ∀ i, W.contains i = false → t' i = t i

theorem TSame.refl {W : List Nat} {t : T} : TSame W t t := fun _ _ => rfl
theorem TSame.trans {W : List Nat} {a b c : T} (h : TSame W a b) (h' : TSame W b c) : TSame W a c := fun i hi => (h' i hi).trans (h i hi)
theorem contains_app {a b : List Nat} {i : Nat} : (a ++ b).contains i = (a.contains i || b.contains i) := by
  rw [Bool.eq_iff_iff]; simp [List.contains_iff_mem]
theorem TSame.left {a b : List Nat} {t t' : T} (h : TSame a t t') : TSame (a ++ b) t t' := fun i hi => h i (by rw [contains_app] at hi; exact (Bool.or_eq_false_iff.mp hi).1)
theorem TSame.right {a b : List Nat} {t t' : T} (h : TSame b t t') : TSame (a ++ b) t t' := fun i hi => h i (by rw [contains_app] at hi; exact (Bool.or_eq_false_iff.mp hi).2)

theorem stepO_same {c : CallF} {o : MO} {t t' : T} {H H' : AH} (h : stepO c o t H = some (t', H')) (i : Nat) (hi : o.dst ≠ some i) : t' i = t i := by
  have hu : ∀ v, t.upO o.dst v i = t i := by
    intro v
    cases hd : o.dst with
    | none => rfl
    | some d => simp only [T.upO, T.up]; rw [if_neg (by rintro rfl; exact hi hd)]
  unfold stepO at h
  split at h
  · split at h
    · cases h; exact hu _
    · cases h
  · cases h; exact hu _

theorem runOps_same {c : CallF} : ∀ {l : List MO} {t t' : T} {H H' : AH}, runOps c l t H = some (t', H') → TSame (l.filterMap MO.dst) t t' := by
  intro l
  induction l with
  | nil => intro t t' H H' h; simp only [runOps] at h; cases h; exact .refl
  | cons o r ih =>
    intro t t' H H' h i hi
    simp only [runOps] at h
    split at h
    · rename_i t2 H2 hs
      have h1 : (r.filterMap MO.dst).contains i = false ∧ o.dst ≠ some i := by
        rw [Bool.eq_false_iff] at hi ⊢
        simp only [ne_eq, List.contains_iff_mem, List.mem_filterMap, not_exists, not_and] at hi ⊢
        exact ⟨fun x hx => hi x (.tail _ hx), hi o (.head _)⟩
      rw [ih h i h1.1, stepO_same hs i h1.2]
    · cases h

theorem runTr_same {c : CallF} : ∀ {l : List MO} {t t' : T} {H H' : AH} {tr : List (T × AH)}, runTr c l t H = some tr → tr.getLast? = some (t', H') → TSame (l.filterMap MO.dst) t t' := by
  intro l
  induction l with
  | nil => intro t t' H H' tr h hl; simp only [runTr] at h; cases h; cases hl; exact .refl
  | cons o r ih =>
    intro t t' H H' tr h hl i hi
    simp only [runTr] at h
    split at h
    · rename_i t2 H2 hs
      split at h
      · rename_i l2 hl2
        cases h
        have h1 : (r.filterMap MO.dst).contains i = false ∧ o.dst ≠ some i := by
          rw [Bool.eq_false_iff] at hi ⊢
          simp only [ne_eq, List.contains_iff_mem, List.mem_filterMap, not_exists, not_and] at hi ⊢
          exact ⟨fun x hx => hi x (.tail _ hx), hi o (.head _)⟩
        have hl' : l2.getLast? = some (t', H') := by
          cases l2 with
          | nil => cases r with
            | nil => simp [runTr] at hl2
            | cons a b =>
              simp only [runTr] at hl2
              split at hl2
              · split at hl2
                · cases hl2
                · cases hl2
              · cases hl2
          | cons a b => simpa using hl
        rw [ih hl2 hl' i h1.1, stepO_same hs i h1.2]
      · cases h
    · cases h

theorem iter_same {f : T → AH → RC} {W : List Nat} (hf : ∀ t H x t' H', f t H = some (x, t', H') → TSame W t t') : ∀ {n : Nat} {t t' : T} {H H' : AH} {x : AX}, iter f n t H = some (x, t', H') → TSame W t t' := by
  intro n
  induction n with
  | zero => intro t t' H H' x h; cases h
  | succ n ih =>
    intro t t' H H' x h
    simp only [iter] at h
    split at h
    · rename_i t2 H2 h2
      exact (hf _ _ _ _ _ h2).trans (ih h)
    · exact hf _ _ _ _ _ h

theorem exec_same {c : CallF} {n : Nat} : ∀ {p : MC} {t t' : T} {H H' : AH} {x : AX}, exec n c p t H = some (x, t', H') → TSame p.writes t t' := by
  intro p
  induction p with
  | skip => intro t t' H H' x h; simp only [exec] at h; cases h; exact .refl
  | exit j => intro t t' H H' x h; simp only [exec] at h; cases h; exact .refl
  | ret => intro t t' H H' x h; simp only [exec] at h; cases h; exact .refl
  | ops l =>
    intro t t' H H' x h
    simp only [exec] at h
    split at h
    · rename_i hr; cases h; exact runOps_same hr
    · cases h
  | draw l ps =>
    intro t t' H H' x h
    simp only [exec] at h
    split at h
    · rename_i tr hr
      split at h
      · split at h
        · rename_i hl; cases h; exact runTr_same hr hl
        · cases h
      · cases h
    · cases h
  | seq a b iha ihb =>
    intro t t' H H' x h
    simp only [exec] at h
    split at h
    · rename_i t2 H2 hr
      exact (iha hr).left.trans (ihb h).right
    · exact (iha h).left
  | cond cc a b iha ihb =>
    intro t t' H H' x h
    simp only [exec] at h
    split at h
    · exact (iha h).left
    · exact (ihb h).right
    · cases h
  | block id b ih =>
    intro t t' H H' x h
    simp only [exec] at h
    split at h
    · rename_i hr
      split at h <;> cases h <;> exact ih hr
    · exact ih h
  | loop b ih =>
    intro t t' H H' x h
    simp only [exec] at h
    exact iter_same (fun _ _ _ _ _ => ih) h

theorem AWP.tsame {E : Env} {p : MC} {t : T} {H : AH} {Q : Post} (h : AWP E p t H Q) : AWP E p t H (fun x t' H' => TSame p.writes t t' ∧ Q x t' H') := by
  obtain ⟨k, x, t', H', h1, h2⟩ := h
  exact ⟨k, x, t', H', h1, exec_same h1, h2⟩

variable {E : Env}

/-- A loop with a count of what is left, and what the loop leaves of the temporaries. -/
theorem AWP_loopS {b : MC} {Q : Post} {t0 : T} {H0 : AH} (I : Nat → T → AH → Prop) (n : Nat) (h0 : I n t0 H0)
    (hs : ∀ n t H, TSame b.writes t0 t → I n t H → AWP E b t H (Lp I n Q)) : AWP E (.loop b) t0 H0 Q := by
  refine AWP_loop (fun n t H => TSame b.writes t0 t ∧ I n t H) ?_ n ⟨.refl, h0⟩
  rintro n t H ⟨h1, h2⟩
  refine (hs n t H h1 h2).tsame.imp ?_
  rintro x t' H' ⟨hS, hq⟩
  cases x with
  | normal => obtain ⟨m, hm, hI⟩ := hq; exact ⟨m, hm, h1.trans hS, hI⟩
  | _ => exact hq

/-- A loop that counts up, and what the loop leaves of the temporaries. -/
theorem AWP_upS {b : MC} {Q : Post} {t0 : T} {H0 : AH} (I : Nat → T → AH → Prop) (N : Nat) (h0 : I 0 t0 H0)
    (hs : ∀ n t H, n ≤ N → TSame b.writes t0 t → I n t H → AWP E b t H (Up I N n Q)) : AWP E (.loop b) t0 H0 Q := by
  refine AWP_up (fun n t H => TSame b.writes t0 t ∧ I n t H) N ⟨.refl, h0⟩ ?_
  rintro n t H hn ⟨h1, h2⟩
  refine (hs n t H hn h1 h2).tsame.imp ?_
  rintro x t' H' ⟨hS, hq⟩
  cases x with
  | normal => exact ⟨hq.1, h1.trans hS, hq.2⟩
  | _ => exact hq

/-- The end of a round of a counting loop. -/
def ForP (i j l0 l1 : Nat) (k : Nat) (I : Nat → T → AH → Prop) (Q : Post) : Post
  | .normal, t, H => I (k + 1) ((t.up j (.int .i64 (k + 1))).up i (.int .i64 (k + 1))) H
  | .exit m, t, H => if m = l1 then I (k + 1) ((t.up j (.int .i64 (k + 1))).up i (.int .i64 (k + 1))) H else if m = l0 then Q .normal t H else Q (.exit m) t H
  | .ret, t, H => Q .ret t H

def rangeLoop (l0 l1 c i n j : Nat) (body : MC) : MC :=
  .block l0 (.loop (.seq (.ops [⟨some c, .bin 0 false .lss (.tmp i) (.tmp n), none⟩]) (.seq (.cond (.tmp c) .skip (.exit l0)) (.seq (.block l1 body) (.ops [⟨some j, .bin 0 true .add (.tmp i) (.const (.int .i64 1)), none⟩, ⟨some i, .mv (.tmp j), none⟩])))))

theorem AWP_for {l0 l1 c i n j : Nat} {body : MC} {t0 : T} {H0 : AH} {Q : Post} (N : Nat) (I : Nat → T → AH → Prop)
    (hn : t0 n = .int .i64 N) (hi : t0 i = .int .i64 0) (hN : N ≤ 4611686018427387904) (h0 : I 0 t0 H0)
    (hw : (body.writes.contains i || body.writes.contains n || [c, i, j].contains n || [c, j].contains i || c == i) = false)
    (hs : ∀ k t H, k < N → t i = .int .i64 k → t n = .int .i64 N → TSame (c :: i :: j :: body.writes) t0 t → I k t H → AWP E body (t.up c (.bool true)) H (ForP i j l0 l1 k I Q))
    (he : ∀ t H, t i = .int .i64 N → t n = .int .i64 N → TSame (c :: i :: j :: body.writes) t0 t → I N t H → Q .normal (t.up c (.bool false)) H) :
    AWP E (rangeLoop l0 l1 c i n j body) t0 H0 Q := by
  simp only [Bool.or_eq_false_iff] at hw
  obtain ⟨⟨⟨⟨hwi, hwn⟩, hn3⟩, hi2⟩, hci⟩ := hw
  have hci' : i ≠ c := by rintro rfl; simp at hci
  have hij : i ≠ j := by rintro rfl; simp at hi2
  have hnc : n ≠ c := by rintro rfl; simp at hn3
  have hni : n ≠ i := by rintro rfl; simp at hn3
  have hnj : n ≠ j := by rintro rfl; simp at hn3
  unfold rangeLoop
  rw [AWP_block_eq]
  refine AWP_up (fun k t H => k ≤ N ∧ t i = .int .i64 k ∧ t n = .int .i64 N ∧ TSame (c :: i :: j :: body.writes) t0 t ∧ I k t H) N ⟨Nat.zero_le _, hi, hn, .refl, h0⟩ ?_
  rintro k t H hk ⟨_, h1, h2, h3, h4⟩
  rw [AWP_seq_eq, AWP_ops_eq, w_bin]
  have hb : opBin 0 false .lss (ev t (.tmp i)) (ev t (.tmp n)) = some (.bool (decide ((k : Int) < N))) := by
    simp only [ev, h1, h2, opBin, opIntBin, if_true]
  rw [hb, AVH_oV, AOps_nil, Sq_normal, AWP_seq_eq, AWP_cond_eq]
  have hc : ev (t.upO (some c) (.bool (decide ((k : Int) < N)))) (.tmp c) = .bool (decide ((k : Int) < N)) := by simp [ev, T.upO, T.up]
  rw [hc]
  by_cases hlt : k < N
  · have hd : decide ((k : Int) < N) = true := decide_eq_true (by omega)
    rw [hd, ACond_true, AWP_skip_eq, Sq_normal, AWP_seq_eq, AWP_block_eq]
    refine (hs k t H hlt h1 h2 h3 h4).tsame.imp ?_
    rintro x t' H' ⟨hS, hq⟩
    have hS' : ∀ x, body.writes.contains x = false → x ≠ c → t' x = t x := by
      intro x hx hxc
      rw [hS x hx]; simp [T.up, hxc]
    have hfin : ForP i j l0 l1 k I Q .normal t' H' → AWP E (.ops [⟨some j, .bin 0 true .add (.tmp i) (.const (.int .i64 1)), none⟩, ⟨some i, .mv (.tmp j), none⟩]) t' H' (Up (fun k t H => k ≤ N ∧ t i = .int .i64 k ∧ t n = .int .i64 N ∧ TSame (c :: i :: j :: body.writes) t0 t ∧ I k t H) N k (Blkp l0 Q)) := by
      intro hq
      rw [AWP_ops_eq, w_bin]
      have hb : opBin 0 true .add (ev t' (.tmp i)) (ev t' (.const (.int .i64 1))) = some (.int .i64 (k + 1)) := by
        simp only [ev, hS' i hwi hci', h1, opBin, opIntBin, if_true]
        rw [IntKind.wrap_i64]
        rw [show ((k : Int) + 1 + 9223372036854775808) % 18446744073709551616 - 9223372036854775808 = k + 1 by omega]
      rw [hb, AVH_oV, w_mv, AOps_nil]
      refine ⟨hlt, hlt, ?_, ?_, ?_, ?_⟩
      · simp [T.upO, T.up, ev]
      · simp [T.upO, T.up, hni, hnj, hS' n hwn hnc, h2]
      · intro x hx
        have hx' : x ≠ c ∧ x ≠ i ∧ x ≠ j ∧ body.writes.contains x = false := by
          rw [Bool.eq_false_iff] at hx
          rw [Bool.eq_false_iff]
          simp only [ne_eq, List.contains_iff_mem, List.mem_cons, not_or] at hx
          simp only [ne_eq, List.contains_iff_mem]
          exact ⟨hx.1, hx.2.1, hx.2.2.1, hx.2.2.2⟩
        simp only [T.upO, T.up, if_neg hx'.2.1, if_neg hx'.2.2.1]
        rw [hS' x hx'.2.2.2 hx'.1, h3 x hx]
      · simpa [T.upO, T.up, ev, ForP] using hq
    cases x with
    | normal => exact hfin hq
    | ret => exact hq
    | exit m =>
      simp only [ForP] at hq
      simp only [Blkp]
      split
      · rename_i hm; rw [if_pos hm] at hq; exact hfin hq
      · rename_i hm
        rw [if_neg hm] at hq
        simp only [Sq, Up, Blkp]
        exact hq
  · have hd : decide ((k : Int) < N) = false := decide_eq_false (by omega)
    rw [hd, ACond_false, AWP_exit_eq]
    have hkN : k = N := by omega
    subst hkN
    simp only [Sq, Up, Blkp, if_true]
    exact he t H h1 h2 h3 h4

theorem ForP_normal {i j l0 l1 k : Nat} {I : Nat → T → AH → Prop} {Q : Post} {t : T} {H : AH} : ForP i j l0 l1 k I Q .normal t H = I (k + 1) ((t.up j (.int .i64 (k + 1))).up i (.int .i64 (k + 1))) H := rfl
theorem ForP_exit {i j l0 l1 k m : Nat} {I : Nat → T → AH → Prop} {Q : Post} {t : T} {H : AH} :
    ForP i j l0 l1 k I Q (.exit m) t H = if m = l1 then I (k + 1) ((t.up j (.int .i64 (k + 1))).up i (.int .i64 (k + 1))) H else if m = l0 then Q .normal t H else Q (.exit m) t H := rfl
theorem ForP_ret {i j l0 l1 k : Nat} {I : Nat → T → AH → Prop} {Q : Post} {t : T} {H : AH} : ForP i j l0 l1 k I Q .ret t H = Q .ret t H := rfl

end Go.AE
set_option linter.unusedVariables false
set_option linter.unusedSimpArgs false
namespace Go.AE

abbrev Str := List UInt8
def sv (s : Str) : Value := .string ⟨s.toArray⟩
def bv (b : UInt8) : Value := .int .u8 b.toNat

theorem bv_eq {b : UInt8} : bv b = .int .u8 b.toNat := rfl
theorem sv_of (b : ByteArray) : Value.string b = sv b.data.toList := rfl
theorem sv_cells {s : Str} : (sv s).cells = #[sv s] := rfl

/-! ### numbers -/

section
variable {kd : Nat} {c : Bool} {k : IntKind} {a b : Int}
theorem bin_add : opBin kd c .add (.int k a) (.int k b) = some (.int k (k.wrap (a + b))) := by simp [opBin, opIntBin]
theorem bin_sub : opBin kd c .sub (.int k a) (.int k b) = some (.int k (k.wrap (a - b))) := by simp [opBin, opIntBin]
theorem bin_mul : opBin kd c .mul (.int k a) (.int k b) = some (.int k (k.wrap (a * b))) := by simp [opBin, opIntBin]
theorem bin_quo (h : b ≠ 0) : opBin kd c .quo (.int k a) (.int k b) = some (.int k (k.wrap (a.tdiv b))) := by simp [opBin, opIntBin, h]
theorem bin_rem (h : b ≠ 0) : opBin kd c .rem (.int k a) (.int k b) = some (.int k (a.tmod b)) := by simp [opBin, opIntBin, h]
theorem bin_eql : opBin kd c .eql (.int k a) (.int k b) = some (.bool (decide (a = b))) := by simp only [opBin, opIntBin, if_true]; rfl
theorem bin_neq : opBin kd c .neq (.int k a) (.int k b) = some (.bool (!decide (a = b))) := by simp only [opBin, opIntBin, if_true]; rfl
theorem bin_lss : opBin kd c .lss (.int k a) (.int k b) = some (.bool (decide (a < b))) := by simp [opBin, opIntBin]
theorem bin_leq : opBin kd c .leq (.int k a) (.int k b) = some (.bool (decide (a ≤ b))) := by simp [opBin, opIntBin]
theorem bin_gtr : opBin kd c .gtr (.int k a) (.int k b) = some (.bool (decide (b < a))) := by simp [opBin, opIntBin]
theorem bin_geq : opBin kd c .geq (.int k a) (.int k b) = some (.bool (decide (b ≤ a))) := by simp [opBin, opIntBin]
theorem bin_and : opBin kd c .and (.int k a) (.int k b) = some (.int k (k.wrap (BitVec.ofInt k.bits a &&& BitVec.ofInt k.bits b).toNat)) := by simp [opBin, opIntBin]
theorem bin_or : opBin kd c .or (.int k a) (.int k b) = some (.int k (k.wrap (BitVec.ofInt k.bits a ||| BitVec.ofInt k.bits b).toNat)) := by simp [opBin, opIntBin]
theorem bin_xor : opBin kd c .xor (.int k a) (.int k b) = some (.int k (k.wrap (BitVec.ofInt k.bits a ^^^ BitVec.ofInt k.bits b).toNat)) := by simp [opBin, opIntBin]
theorem bin_andNot : opBin kd c .andNot (.int k a) (.int k b) = some (.int k (k.wrap (BitVec.ofInt k.bits a &&& ~~~BitVec.ofInt k.bits b).toNat)) := by simp [opBin, opIntBin]
theorem bin_shl {k' : IntKind} (h : 0 ≤ b) : opBin kd c .shl (.int k a) (.int k' b) = some (.int k (k.wrap (a * 2 ^ (min b.toNat k.bits)))) := by simp [opBin, show ¬ b < 0 by omega]
theorem bin_shr {k' : IntKind} (h : 0 ≤ b) : opBin kd c .shr (.int k a) (.int k' b) = some (.int k (a.fdiv (2 ^ (min b.toNat k.bits)))) := by simp [opBin, show ¬ b < 0 by omega]
theorem un_neg : opUn .neg (.int k a) = some (.int k (k.wrap (0 - a))) := rfl
theorem un_not {b : Bool} : opUn .not (.bool b) = some (.bool !b) := rfl
theorem conv_int {k' : IntKind} : opConv k (.int k' a) = some (.int k (k.wrap a)) := rfl
theorem min_int : opMin (.int k a) (.int k b) = some (.int k (if b < a then b else a)) := by simp [opMin]
theorem max_int : opMax (.int k a) (.int k b) = some (.int k (if a < b then b else a)) := by simp [opMax]
theorem bool_eql {c : Bool} {a b : Bool} : opBin 1 c .eql (.bool a) (.bool b) = some (.bool (a == b)) := rfl
theorem bool_neq {c : Bool} {a b : Bool} : opBin 1 c .neq (.bool a) (.bool b) = some (.bool (!(a == b))) := rfl
end

theorem wrap64 {n : Int} (h : -9223372036854775808 ≤ n ∧ n < 9223372036854775808) : IntKind.i64.wrap n = n := by rw [IntKind.wrap_i64]; omega
theorem wrap8 {n : Int} (h : 0 ≤ n ∧ n < 256) : IntKind.u8.wrap n = n := by
  have : IntKind.u8.wrap n = n % 256 := by simp [IntKind.wrap, IntKind.bits, IntKind.signed, BitVec.toNat_ofInt]
  rw [this]; omega
theorem tdiv_pos {a b : Int} (h : 0 ≤ a) : a.tdiv b = a / b := Int.tdiv_eq_ediv_of_nonneg h
theorem tmod_pos {a b : Int} (h : 0 ≤ a) : a.tmod b = a % b := Int.tmod_eq_emod_of_nonneg h

/-! ### strings -/

theorem len_sv {s : Str} : opLen true (sv s) = some (.int .i64 s.length) := by simp [opLen, sv, ByteArray.size]
theorem idx_sv {s : Str} {k : IntKind} {i : Int} (h : 0 ≤ i ∧ i < s.length) : opIndexStr (sv s) (.int k i) = some (bv (s.getD i.toNat default)) := by
  have h2 : i.toNat < s.length := by omega
  simp [opIndexStr, sv, h.1, bv, List.getElem?_eq_getElem h2, List.getD]
theorem str_add {kd : Nat} {c : Bool} {a b : Str} (h : a.length + b.length ≤ 4611686018427387904) : opBin kd c .add (sv a) (sv b) = some (sv (a ++ b)) := by
  have e : (⟨a.toArray⟩ : ByteArray) ++ ⟨b.toArray⟩ = ⟨(a ++ b).toArray⟩ := by apply ByteArray.ext; simp [ByteArray.data_append]
  simp [opBin, opStrBin, sv, ByteArray.size, h, e]
theorem str_eql {kd : Nat} {c : Bool} {a b : Str} : opBin kd c .eql (sv a) (sv b) = some (.bool (decide (a = b))) := by
  simp only [opBin, opStrBin, sv]; congr 2
  rw [Bool.eq_iff_iff]; simp
theorem str_neq {kd : Nat} {c : Bool} {a b : Str} : opBin kd c .neq (sv a) (sv b) = some (.bool (!decide (a = b))) := by
  simp only [opBin, opStrBin, sv]; congr 3
  rw [Bool.eq_iff_iff]; simp
theorem str_lss {kd : Nat} {c : Bool} {a b : Str} : opBin kd c .lss (sv a) (sv b) = some (.bool (decide (a < b))) := by
  simp only [opBin, opStrBin, sv, Go.Proofs.bytesLess_eq]
theorem str_geq {kd : Nat} {c : Bool} {a b : Str} : opBin kd c .geq (sv a) (sv b) = some (.bool (!decide (a < b))) := by
  simp only [opBin, opStrBin, sv, Go.Proofs.bytesLess_eq]
theorem str_le {a b : Str} : (decide (a < b) || a == b) = !decide (b < a) := by
  rw [Bool.eq_iff_iff]
  simp only [Bool.or_eq_true, decide_eq_true_eq, beq_iff_eq, Bool.not_eq_true', decide_eq_false_iff_not]
  constructor
  · rintro (h | rfl)
    · exact fun h' => List.lt_asymm h h'
    · exact List.lt_irrefl _
  · intro h
    by_cases h1 : a < b
    · exact .inl h1
    · exact .inr (List.le_antisymm h h1)
theorem str_leq {kd : Nat} {c : Bool} {a b : Str} : opBin kd c .leq (sv a) (sv b) = some (.bool (!decide (b < a))) := by
  simp only [opBin, opStrBin, sv, Go.Proofs.bytesLess_eq, str_le]
theorem str_gtr {kd : Nat} {c : Bool} {a b : Str} : opBin kd c .gtr (sv a) (sv b) = some (.bool (decide (b < a))) := by
  simp only [opBin, opStrBin, sv, Go.Proofs.bytesLess_eq, str_le, Bool.not_not]

theorem slc_str {s : Str} {l h : Int} {k k' : IntKind} (hb : 0 ≤ l ∧ l ≤ h ∧ h ≤ s.length) :
    opSliceStr (sv s) (some (.int k l)) (some (.int k' h)) = some (sv ((s.take h.toNat).drop l.toNat)) := by
  have e : (⟨s.toArray⟩ : ByteArray).extract l.toNat h.toNat = ⟨((s.take h.toNat).drop l.toNat).toArray⟩ := by
    apply ByteArray.ext
    simp [ByteArray.data_extract, List.extract_toArray, List.extract_eq_take_drop, List.drop_take]
  simp [opSliceStr, sv, bound, ByteArray.size, hb, e]
theorem slc_str_lo {s : Str} {l : Int} {k : IntKind} (hb : 0 ≤ l ∧ l ≤ s.length) :
    opSliceStr (sv s) (some (.int k l)) none = some (sv (s.drop l.toNat)) := by
  have := slc_str (s := s) (l := l) (h := s.length) (k := k) (k' := k) ⟨hb.1, hb.2, Int.le_refl _⟩
  simpa [opSliceStr, sv, bound, ByteArray.size] using this
theorem slc_str_hi {s : Str} {h : Int} {k : IntKind} (hb : 0 ≤ h ∧ h ≤ s.length) :
    opSliceStr (sv s) none (some (.int k h)) = some (sv (s.take h.toNat)) := by
  have := slc_str (s := s) (l := 0) (h := h) (k := k) (k' := k) ⟨Int.le_refl _, hb.1, hb.2⟩
  simpa [opSliceStr, sv, bound, ByteArray.size] using this

/-! ### heaps -/

def oAgg (o n : Nat) (cs : List Value) : Option Value := if o + n ≤ cs.length then some (.agg ((cs.drop o).take n).toArray) else none

theorem size_alloc {H : AH} {b : Blk} : (H.alloc b).size = H.size + 1 := by simp [AH.size, AH.alloc]
theorem size_put {H : AH} {i : Nat} {b : Option Blk} : (H.put i b).size = H.size := by simp [AH.size, AH.put]
theorem lo_alloc {H : AH} {b : Blk} : (H.alloc b).lo = H.lo := rfl
theorem lo_put {H : AH} {i : Nat} {b : Option Blk} : (H.put i b).lo = H.lo := rfl
theorem get_lt {H : AH} {i : Nat} {b : Blk} (h : H.get i = some b) : i < H.size := by
  unfold AH.get AH.size at *
  by_cases hi : i < H.bs.length
  · exact hi
  · rw [List.getElem?_eq_none (by omega)] at h; cases h
theorem get_alloc_self {H : AH} {b : Blk} {i : Nat} (h : i = H.size) : (H.alloc b).get i = some b := by subst h; simp [AH.get, AH.alloc, AH.size]
theorem get_alloc_lt {H : AH} {b : Blk} {i : Nat} (h : i < H.size) : (H.alloc b).get i = H.get i := by
  unfold AH.get AH.alloc AH.size at *; rw [List.getElem?_append_left h]
theorem get_put_self {H : AH} {b : Option Blk} {i j : Nat} (h : i = j ∧ i < H.size) : (H.put i b).get j = b := by
  obtain ⟨rfl, h⟩ := h
  unfold AH.get AH.put AH.size at *; simp [h]
theorem get_put_ne {H : AH} {b : Option Blk} {i j : Nat} (h : i ≠ j) : (H.put i b).get j = H.get j := by
  unfold AH.get AH.put at *; simp [List.getElem?_set, h]

/-- A later heap that has all blocks of the first one as they were. -/
def Kp (H H' : AH) : Prop := H'.lo = H.lo ∧ H.size ≤ H'.size ∧ ∀ i, i < H.size → H'.get i = H.get i

theorem Kp.refl {H : AH} : Kp H H := ⟨rfl, Nat.le_refl _, fun _ _ => rfl⟩
theorem Kp.trans {A B C : AH} (h : Kp A B) (h' : Kp B C) : Kp A C := ⟨h'.1.trans h.1, Nat.le_trans h.2.1 h'.2.1, fun i hi => (h'.2.2 i (Nat.lt_of_lt_of_le hi h.2.1)).trans (h.2.2 i hi)⟩
theorem Kp.alloc {A B : AH} {b : Blk} (h : Kp A B) : Kp A (B.alloc b) := h.trans ⟨rfl, by rw [size_alloc]; omega, fun i hi => get_alloc_lt hi⟩
theorem Kp.put {A B : AH} {i : Nat} {b : Option Blk} (h : Kp A B) (hi : A.size ≤ i) : Kp A (B.put i b) :=
  ⟨h.1, by rw [size_put]; exact h.2.1, fun j hj => by rw [get_put_ne (by omega)]; exact h.2.2 j hj⟩
theorem Kp.get {A B : AH} {i : Nat} {b : Blk} (h : Kp A B) (hg : A.get i = some b) : B.get i = some b := by rw [h.2.2 i (get_lt hg)]; exact hg
theorem Kp.size {A B : AH} (h : Kp A B) : A.size ≤ B.size := h.2.1
theorem Kp.lo {A B : AH} (h : Kp A B) : B.lo = A.lo := h.1

/-- The result is v, and all blocks are as they were. -/
def Ret (v : Value) (H : AH) : CPost := fun v' H' => v' = v ∧ Kp H H'
theorem ACalls.ret {E : Env} {f : Nat} {args : List Value} {H0 H : AH} {v : Value} {Q : CPost} (h : ACalls E f args H0 (Ret v H)) (hq : ∀ H', Kp H H' → Q v H') : ACalls E f args H0 Q :=
  h.imp fun _ _ ⟨e1, e2⟩ => by subst e1; exact hq _ e2
theorem Is.toRet {E : Env} {f : Nat} {args : List Value} {H : AH} {v : Value} (h : ACalls E f args H (Is v H)) : ACalls E f args H (Ret v H) :=
  h.imp fun _ _ ⟨e1, e2⟩ => ⟨e1, by subst e2; exact .refl⟩

theorem AClo_imp {E : Env} {f : Value} {args : List Value} {H : AH} {Q Q' : CPost} (h : AClo E f args H Q) (hi : ∀ v H, Q v H → Q' v H) : AClo E f args H Q' := by
  unfold AClo at *
  split at h
  · exact h.imp hi
  · exact h.elim
theorem AClo_ret {E : Env} {g : Value} {args : List Value} {H0 H : AH} {v : Value} {Q : CPost} (h : AClo E g args H0 (Ret v H)) (hq : ∀ H', Kp H H' → Q v H') : AClo E g args H0 Q :=
  AClo_imp h fun _ _ ⟨e1, e2⟩ => by subst e1; exact hq _ e2

theorem ext_tuple {vs : List Value} {i : Nat} : opExtract (.tuple vs.toArray) i = vs[i]? := by simp [opExtract]

/-! ### blocks -/

theorem fieldAddr_p {off b o : Nat} : opFieldAddr off (.pointer (some ⟨b, o, none⟩)) = some (.pointer (some ⟨b, o + off, none⟩)) := rfl
theorem nil_p {a : Addr} : opNil (.pointer (some a)) = some (.pointer (some a)) := rfl
theorem load_self {H : AH} {cs : List Value} {b es o : Nat} (h : b = H.size) : opLoad none (.pointer (some ⟨b, o, none⟩)) (H.alloc ⟨cs, es⟩) = cs[o]? := by
  subst h; simp only [opLoad, AH.read1, get_alloc_self rfl]
theorem loadN_self {H : AH} {cs : List Value} {b es o n : Nat} (h : b = H.size) : opLoad (some n) (.pointer (some ⟨b, o, none⟩)) (H.alloc ⟨cs, es⟩) = oAgg o n cs := by
  subst h; simp only [opLoad, AH.readN, get_alloc_self rfl, oAgg]
  by_cases hc : o + n ≤ cs.length
  · simp only [if_pos hc]
  · simp only [if_neg hc]
theorem load_at {H : AH} {b : Nat} {cs : List Value} {es : Nat} (h : H.get b = some ⟨cs, es⟩) : (∀ {o : Nat}, opLoad none (.pointer (some ⟨b, o, none⟩)) H = cs[o]?) ∧ (∀ {o n : Nat}, opLoad (some n) (.pointer (some ⟨b, o, none⟩)) H = oAgg o n cs) := by
  constructor
  · intro o; simp only [opLoad, AH.read1, h]
  · intro o n
    simp only [opLoad, AH.readN, h, oAgg]
    by_cases hc : o + n ≤ cs.length
    · simp only [if_pos hc]
    · simp only [if_neg hc]
theorem load_lt {H : AH} {g : Option Nat} {b o : Nat} {B : Blk} (h : b < H.size) : opLoad g (.pointer (some ⟨b, o, none⟩)) (H.alloc B) = opLoad g (.pointer (some ⟨b, o, none⟩)) H := by
  cases g <;> simp only [opLoad, AH.read1, AH.readN, get_alloc_lt h]
theorem get_nil {i : Nat} : ([] : List Value)[i]? = none := rfl
theorem get_zero {v : Value} {l : List Value} : (v :: l)[0]? = some v := rfl
theorem get_succ {v : Value} {l : List Value} {i : Nat} : (v :: l)[i + 1]? = l[i]? := rfl
theorem oAgg_all {n : Nat} {cs : List Value} (h : cs.length = n) : oAgg 0 n cs = some (.agg cs.toArray) := by
  subst h; simp [oAgg]
theorem oAgg_at {o n : Nat} {cs : List Value} (h : o + n ≤ cs.length) : oAgg o n cs = some (.agg ((cs.drop o).take n).toArray) := if_pos h
theorem store_at {H : AH} {b o n : Nat} {cs : List Value} {es : Nat} {x : Value} (h : H.get b = some ⟨cs, es⟩) (hn : x.cells.size = n) (hl : H.lo ≤ b) (hb : o + n ≤ cs.length) (h1 : x.cells.toList.all Value.oneCell' = true) :
    opStore n (.pointer (some ⟨b, o, none⟩)) x H = some (H.put b (some ⟨splice cs o x.cells.toList, es⟩)) := by
  have e : x.cells.toList.length = n := by rw [← hn]; rfl
  simp only [opStore, hn, if_true, AH.write, h]
  rw [if_pos ⟨hl, by omega, h1⟩]

/-- The heap's first writable block is not beyond its end. -/
def Wf (H : AH) : Prop := H.lo ≤ H.size
theorem Kp.wf {A B : AH} (h : Kp A B) (hw : Wf A) : Wf B := by unfold Wf at *; rw [h.lo]; exact Nat.le_trans hw h.size
theorem Wf.alloc {H : AH} {b : Blk} (h : Wf H) : Wf (H.alloc b) := (Kp.refl.alloc).wf h
theorem wf_alloc {H : AH} {b : Blk} (h : Wf H) : Wf (H.alloc b) = True := eq_true h.alloc
theorem wf_alloc3 {H : AH} {a b c : Blk} (h : Wf H) : Wf (((H.alloc a).alloc b).alloc c) = True := eq_true h.alloc.alloc.alloc
theorem wf_alloc5 {H : AH} {a b c d e : Blk} (h : Wf H) : Wf (((((H.alloc a).alloc b).alloc c).alloc d).alloc e) = True := eq_true h.alloc.alloc.alloc.alloc.alloc
theorem vset_zero {v x : Value} {l : List Value} : (v :: l).set 0 x = x :: l := rfl
theorem vset_succ {v x : Value} {l : List Value} {i : Nat} : (v :: l).set (i + 1) x = v :: l.set i x := rfl
theorem put_alloc_self {H : AH} {a b : Blk} : (H.alloc a).put H.size (some b) = H.alloc b := by
  unfold AH.put AH.alloc AH.size
  simp [List.set_append]
theorem put_alloc_lt {H : AH} {a : Blk} {b : Option Blk} {i : Nat} (h : i < H.size) : (H.alloc a).put i b = (H.put i b).alloc a := by
  unfold AH.put AH.alloc AH.size at *
  simp [List.set_append, h]
def oMap (B : Blk) : Option AH → Option AH
  | some H => some (H.alloc B)
  | none => none
theorem oMap_some {B : Blk} {H : AH} : oMap B (some H) = some (H.alloc B) := rfl
theorem store_all {H : AH} {b n : Nat} {cs ns : List Value} {es : Nat} (hb : b = H.size) (hw : Wf H) (hn : ns.length = n) (hc : cs.length = n) (h1 : ns.all Value.oneCell' = true) :
    opStore n (.pointer (some ⟨b, 0, none⟩)) (.agg ns.toArray) (H.alloc ⟨cs, es⟩) = some (H.alloc ⟨ns, es⟩) := by
  subst hb
  have hw' : H.lo ≤ H.size := hw
  have e := store_at (H := H.alloc ⟨cs, es⟩) (b := H.size) (o := 0) (n := n) (x := .agg ns.toArray) (get_alloc_self rfl) (by simpa [Value.cells] using hn) hw' (by omega) (by simpa [Value.cells] using h1)
  rw [e, put_alloc_self]
  congr 3
  have hd : cs.drop (0 + ns.length) = [] := List.drop_eq_nil_of_le (by omega)
  simp only [splice, Value.cells, List.take_zero, List.nil_append]
  rw [hd, List.append_nil]
theorem store_one {H : AH} {b o : Nat} {cs : List Value} {es : Nat} {x : Value} (hb : b = H.size) (hw : Wf H) (hx : x.cells = #[x]) (ho : o < cs.length) (h1 : x.oneCell' = true) :
    opStore 1 (.pointer (some ⟨b, o, none⟩)) x (H.alloc ⟨cs, es⟩) = some (H.alloc ⟨cs.set o x, es⟩) := by
  subst hb
  have hw' : H.lo ≤ H.size := hw
  have e := store_at (H := H.alloc ⟨cs, es⟩) (b := H.size) (o := o) (n := 1) (x := x) (get_alloc_self rfl) (by rw [hx]; rfl) hw' (by omega) (by rw [hx]; simp [h1])
  rw [e, put_alloc_self]
  congr 3
  rw [hx]
  simp only [splice]
  rw [List.set_eq_take_append_cons_drop, if_pos ho]
  simp
theorem store_lt {H : AH} {n b o : Nat} {x : Value} {B : Blk} (h : b < H.size) : opStore n (.pointer (some ⟨b, o, none⟩)) x (H.alloc B) = oMap B (opStore n (.pointer (some ⟨b, o, none⟩)) x H) := by
  simp only [opStore, AH.write, get_alloc_lt h]
  by_cases h1 : x.cells.size = n
  · rw [if_pos h1, if_pos h1]
    cases H.get b with
    | none => rfl
    | some c =>
      simp only
      by_cases h2 : H.lo ≤ b ∧ o + x.cells.toList.length ≤ c.cells.length ∧ x.cells.toList.all Value.oneCell' = true
      · have h3 : (H.alloc B).lo ≤ b ∧ o + x.cells.toList.length ≤ c.cells.length ∧ x.cells.toList.all Value.oneCell' = true := h2
        rw [if_pos h3, if_pos h2, oMap_some, put_alloc_lt h]
      · have h3 : ¬((H.alloc B).lo ≤ b ∧ o + x.cells.toList.length ≤ c.cells.length ∧ x.cells.toList.all Value.oneCell' = true) := h2
        rw [if_neg h3, if_neg h2]; rfl
  · rw [if_neg h1, if_neg h1]; rfl
theorem zeros_one {z : Value} {n : Nat} : zerosA #[z] n = List.replicate n z := by
  apply List.ext_getElem?
  intro i
  simp only [zerosA, List.getElem?_map, List.getElem?_replicate]
  by_cases h : i < n
  · rw [List.getElem?_range h, if_pos h]
    have : i % 1 = 0 := by omega
    simp [this, Nat.mod_one]
  · rw [if_neg h, List.getElem?_eq_none (by simpa using h)]; rfl
theorem mk_slice {b : Nat} {z : Value} {l : Nat} {H : AH} (h : l ≤ 1099511627776 ∧ b ≤ 256) : opMakeSlice 1 b #[z] (.int .i64 l) (.int .i64 l) H = some (.slice (some ⟨H.size, 0, none⟩) l l, H.alloc ⟨List.replicate l z, 1⟩) := by
  unfold opMakeSlice
  simp only [Int.toNat_natCast, Nat.mul_one, zeros_one]
  rw [if_pos ⟨by omega, by omega, by omega, h.2⟩]
theorem build2 {z0 z1 a b : Value} (ha : a.cells = #[a]) (hb : b.cells = #[b]) : opBuild #[z0, z1] #[(0, 1), (1, 1)] [(0, a), (1, b)] = some (.agg #[a, b]) := by
  simp [opBuild, Instr.fill, ha, hb]
theorem build3 {z0 z1 z2 a b c : Value} (ha : a.cells = #[a]) (hb : b.cells = #[b]) (hc : c.cells = #[c]) : opBuild #[z0, z1, z2] #[(0, 1), (1, 1), (2, 1)] [(0, a), (1, b), (2, c)] = some (.agg #[a, b, c]) := by
  simp [opBuild, Instr.fill, ha, hb, hc]

/-- Only block x, if any, is not as it was. -/
def KpX (x : Option Nat) (H H' : AH) : Prop := H'.lo = H.lo ∧ H.size ≤ H'.size ∧ ∀ i, i < H.size → x ≠ some i → H'.get i = H.get i

/-! ### slices -/

def blkOf : Value → Option Nat
  | .slice (some a) _ _ => some a.block
  | .pointer (some a) => some a.block
  | _ => none

/-- A slice of n elements of es cells each; cs: its cells. -/
def SlC (H : AH) (es : Nat) (v : Value) (n : Nat) (cs : List Value) : Prop :=
  cs.length = n * es ∧ ((v = .slice none 0 0 ∧ n = 0) ∨
    ∃ b o c blk, v = .slice (some ⟨b, o, none⟩) n c ∧ n ≤ c ∧ H.get b = some blk ∧ blk.es = es ∧ o + c * es ≤ blk.cells.length ∧ (blk.cells.drop o).take (n * es) = cs)

def elt (es : Nat) (v : Value) (i : Nat) : Value :=
  match v with
  | .slice (some ⟨b, o, _⟩) _ _ => .pointer (some ⟨b, o + i * es, none⟩)
  | _ => undef

theorem SlC.nil {H : AH} {es : Nat} : SlC H es (.slice none 0 0) 0 [] := ⟨by simp, .inl ⟨rfl, rfl⟩⟩
theorem SlC.kp {H H' : AH} {es n : Nat} {v : Value} {cs : List Value} (h : SlC H es v n cs) (hk : Kp H H') : SlC H' es v n cs := by
  obtain ⟨h0, h | ⟨b, o, c, blk, h1, h2, h3, h4⟩⟩ := h
  · exact ⟨h0, .inl h⟩
  · exact ⟨h0, .inr ⟨b, o, c, blk, h1, h2, hk.get h3, h4⟩⟩
theorem SlC.lt {H : AH} {es n : Nat} {v : Value} {cs : List Value} (h : SlC H es v n cs) {b : Nat} (hb : blkOf v = some b) : b < H.size := by
  obtain ⟨h0, h | ⟨b, o, c, blk, h1, h2, h3, h4⟩⟩ := h
  · rw [h.1] at hb; cases hb
  · rw [h1] at hb; cases hb; exact get_lt h3
theorem SlC.one {H : AH} {es n : Nat} {v : Value} {cs : List Value} (h : SlC H es v n cs) : v.cells = #[v] ∧ v.oneCell' = true := by
  obtain ⟨h0, h | ⟨b, o, c, blk, h1, h2, h3, h4⟩⟩ := h
  · rw [h.1]; exact ⟨rfl, rfl⟩
  · rw [h1]; exact ⟨rfl, rfl⟩
theorem SlC.len {H : AH} {es n : Nat} {v : Value} {cs : List Value} (h : SlC H es v n cs) : opLen false v = some (.int .i64 n) := by
  obtain ⟨h0, h | ⟨b, o, c, blk, h1, h2, h3, h4⟩⟩ := h
  · rw [h.1, h.2]; rfl
  · rw [h1]; rfl
theorem SlC.idx {H : AH} {es n : Nat} {v : Value} {cs : List Value} (h : SlC H es v n cs) {k : IntKind} {i : Int} (hi : 0 ≤ i ∧ i < n) : opIndexAddr es v (.int k i) = some (elt es v i.toNat) := by
  obtain ⟨h0, h | ⟨b, o, c, blk, h1, h2, h3, h4⟩⟩ := h
  · omega
  · rw [h1]; simp [opIndexAddr, elt, hi]
theorem SlC.src {H : AH} {es n : Nat} {v : Value} {cs : List Value} (h : SlC H es v n cs) : srcLen v = some n := by
  obtain ⟨h0, h | ⟨b, o, c, blk, h1, h2, h3, h4⟩⟩ := h
  · rw [h.1, h.2]; rfl
  · rw [h1]; rfl
theorem SlC.cells {H : AH} {es n : Nat} {v : Value} {cs : List Value} (h : SlC H es v n cs) {m : Nat} (hm : m ≤ n) : srcCells es m v H = some (cs.take (m * es)) := by
  obtain ⟨h0, h | ⟨b, o, c, blk, h1, h2, h3, h4, h5, h6⟩⟩ := h
  · obtain ⟨rfl, rfl⟩ := h
    have : cs = [] := by simpa using h0
    subst this
    simp [srcCells]
  · have hle : m * es ≤ n * es := Nat.mul_le_mul_right _ hm
    have hle2 : n * es ≤ c * es := Nat.mul_le_mul_right _ h2
    rw [h1]
    simp only [srcCells, AH.readN, h3, if_pos (show o + m * es ≤ blk.cells.length by omega), ← h6, List.take_take, Nat.min_eq_left hle]
theorem SlC.read {H : AH} {es n : Nat} {v : Value} {cs : List Value} (h : SlC H es v n cs) {i : Nat} (hi : i < n) : opLoad (some es) (elt es v i) H = some (.agg ((cs.drop (i * es)).take es).toArray) := by
  obtain ⟨h0, h | ⟨b, o, c, blk, h1, h2, h3, h4, h5, h6⟩⟩ := h
  · omega
  · have hle : (i + 1) * es ≤ n * es := Nat.mul_le_mul_right _ hi
    have hle2 : n * es ≤ c * es := Nat.mul_le_mul_right _ h2
    have e1 : (i + 1) * es = i * es + es := Nat.succ_mul _ _
    rw [h1]
    simp only [elt, opLoad, AH.readN, h3, if_pos (show o + i * es + es ≤ blk.cells.length by omega), ← h6, Option.some.injEq, Value.agg.injEq]
    congr 1
    rw [List.drop_take, List.drop_drop, List.take_take, Nat.min_eq_left (by omega)]

/-- A slice of elements of one cell. -/
def Sl {α : Type} (f : α → Value) (H : AH) (v : Value) (l : List α) : Prop := SlC H 1 v l.length (l.map f)

theorem Sl.ld {α : Type} [Inhabited α] {f : α → Value} {H : AH} {v : Value} {l : List α} (h : Sl f H v l) {i : Nat} (hi : i < l.length) : opLoad none (elt 1 v i) H = some (f (l.getD i default)) := by
  obtain ⟨h0, h | ⟨b, o, c, blk, h1, h2, h3, h4, h5, h6⟩⟩ := h
  · omega
  · rw [h1]
    have e1 : blk.cells[o + i]? = some (f l[i]) := by
      have := congrArg (fun l : List Value => l[i]?) h6
      simp only [List.getElem?_take, List.getElem?_drop, List.getElem?_map, List.getElem?_eq_getElem hi] at this
      rw [if_pos (by omega)] at this
      simpa using this
    simp only [elt, opLoad, AH.read1, h3, Nat.mul_one, e1, List.getD, List.getElem?_eq_getElem hi, Option.getD_some]
theorem Sl.len {α : Type} {f : α → Value} {H : AH} {v : Value} {l : List α} (h : Sl f H v l) : opLen false v = some (.int .i64 l.length) := SlC.len h
theorem Sl.idx {α : Type} {f : α → Value} {H : AH} {v : Value} {l : List α} (h : Sl f H v l) {k : IntKind} {i : Int} (hi : 0 ≤ i ∧ i < l.length) : opIndexAddr 1 v (.int k i) = some (elt 1 v i.toNat) := SlC.idx h hi
theorem Sl.kp {α : Type} {f : α → Value} {H H' : AH} {v : Value} {l : List α} (h : Sl f H v l) (hk : Kp H H') : Sl f H' v l := SlC.kp h hk
/-- The rules of a slice. -/
theorem Sl.r {α : Type} [Inhabited α] {f : α → Value} {H : AH} {v : Value} {l : List α} (h : Sl f H v l) :
    opLen false v = some (.int .i64 l.length) ∧ (∀ {k : IntKind} {i : Int}, 0 ≤ i ∧ i < l.length → opIndexAddr 1 v (.int k i) = some (elt 1 v i.toNat)) ∧
    (∀ {i : Nat}, i < l.length → opLoad none (elt 1 v i) H = some (f (l.getD i default))) := ⟨h.len, h.idx, h.ld⟩

theorem Sl.fresh {α : Type} {f : α → Value} {H : AH} {b n : Nat} {l : List α} {cs : List Value} (hg : H.get b = some ⟨cs, 1⟩) (hc : cs = l.map f) (hn : n = l.length) : Sl f H (.slice (some ⟨b, 0, none⟩) n n) l := by
  subst hc; subst hn
  exact ⟨by simp, .inr ⟨b, 0, l.length, _, rfl, Nat.le_refl _, hg, rfl, by simp, by rw [List.drop_zero]; exact List.take_of_length_le (by simp)⟩⟩

abbrev Ints := @Sl Int (Value.int .i64)
abbrev Strs := @Sl Str sv
abbrev Bools := @Sl Bool Value.bool
abbrev Bytes := @Sl UInt8 bv

/-! ### values of one cell -/

theorem int_cells {k : IntKind} {n : Int} : (Value.int k n).cells = #[.int k n] := rfl
theorem bool_cells {b : Bool} : (Value.bool b).cells = #[.bool b] := rfl
theorem slice_cells {a : Option Addr} {n c : Nat} : (Value.slice a n c).cells = #[.slice a n c] := rfl
theorem ptr_cells {a : Option Addr} : (Value.pointer a).cells = #[.pointer a] := rfl
theorem func_cells {f : Fn} {a b : Array Value} : (Value.func f a b).cells = #[.func f a b] := rfl
theorem int_one {k : IntKind} {n : Int} : (Value.int k n).oneCell' = true := rfl
theorem bool_one {b : Bool} : (Value.bool b).oneCell' = true := rfl
theorem slice_one {a : Option Addr} {n c : Nat} : (Value.slice a n c).oneCell' = true := rfl
theorem ptr_one {a : Option Addr} : (Value.pointer a).oneCell' = true := rfl
theorem func_one {f : Fn} {a b : Array Value} : (Value.func f a b).oneCell' = true := rfl
theorem sv_one {s : Str} : (sv s).oneCell' = true := rfl
theorem vlen_nil : ([] : List Value).length = 0 := rfl
theorem vlen_cons {v : Value} {l : List Value} : (v :: l).length = l.length + 1 := rfl
theorem vall_nil : ([] : List Value).all Value.oneCell' = true := rfl
theorem vall_cons {v : Value} {l : List Value} : (v :: l).all Value.oneCell' = (v.oneCell' && l.all Value.oneCell') := rfl
theorem band_tt : (true && true) = true := rfl

/-! ### a write into a slice -/

def stH (H : AH) (v : Value) (i : Nat) (x : Value) : AH :=
  match v with
  | .slice (some ⟨b, o, _⟩) _ _ => (match H.get b with | some B => H.put b (some ⟨splice B.cells (o + i) [x], B.es⟩) | none => H)
  | _ => H
theorem Sl.st {α : Type} {f : α → Value} {H : AH} {v : Value} {l : List α} (h : Sl f H v l) (hlo : ∀ b, blkOf v = some b → H.lo ≤ b) {i : Nat} {x : Value} (hi : i < l.length) (hx : x.cells = #[x]) (h1 : x.oneCell' = true) :
    opStore 1 (elt 1 v i) x H = some (stH H v i x) := by
  obtain ⟨h0, h | ⟨b, o, c, blk, e1, h2, h3, h4, h5, h6⟩⟩ := h
  · omega
  · have hb : H.lo ≤ b := hlo b (by rw [e1]; rfl)
    rw [e1]
    simp only [elt, stH, h3, Nat.mul_one, opStore, hx, AH.write, List.length_cons, List.length_nil]
    rw [if_pos (show #[x].size = 1 from rfl), if_pos ⟨hb, by omega, by simp [h1]⟩]
theorem splice_set {cs : List Value} {o n i : Nat} {x : Value} (hi : i < n) (h : o + n ≤ cs.length) : ((splice cs (o + i) [x]).drop o).take n = ((cs.drop o).take n).set i x := by
  unfold splice
  apply List.ext_getElem?
  intro j
  simp only [List.getElem?_take, List.getElem?_drop, List.getElem?_append, List.length_append, List.length_take, List.length_drop, List.getElem?_set, List.length_cons, List.length_nil]
  rw [Nat.min_eq_left (show o + i ≤ cs.length by omega)]
  by_cases h1 : j < n
  · rw [if_pos h1, if_pos h1]
    by_cases h2 : j < i
    · rw [if_pos (by omega), if_pos (by omega), if_pos (by omega), if_neg (by omega)]
    · by_cases h3 : i = j
      · subst h3
        rw [if_pos (by omega), if_neg (by omega), if_pos rfl, if_pos (by omega)]
        simp
      · rw [if_neg (by omega), if_neg h3]
        congr 1; omega
  · rw [if_neg h1, if_neg h1, if_neg (by omega)]
theorem Sl.set {α : Type} {f : α → Value} {H : AH} {v : Value} {l : List α} (h : Sl f H v l) {i : Nat} {x : α} (hi : i < l.length) : Sl f (stH H v i (f x)) v (l.set i x) := by
  obtain ⟨h0, h | ⟨b, o, c, blk, e1, h2, h3, h4, h5, h6⟩⟩ := h
  · omega
  · refine ⟨by simp, .inr ⟨b, o, c, ⟨splice blk.cells (o + i) [f x], blk.es⟩, by simpa using e1, by simpa using h2, ?_, h4, ?_, ?_⟩⟩
    · rw [e1]; simp only [stH, h3]; exact get_put_self ⟨rfl, get_lt h3⟩
    · rw [splice_length (by simp; omega)]; exact h5
    · simp only [List.length_set, List.map_set, Nat.mul_one] at *
      rw [splice_set hi (by omega), h6]
theorem stH_kpx {H : AH} {v : Value} {i : Nat} {x : Value} : KpX (blkOf v) H (stH H v i x) := by
  unfold stH
  split
  · split
    · refine ⟨rfl, by rw [size_put]; exact Nat.le_refl _, fun j hj hne => get_put_ne ?_⟩
      rintro rfl; exact hne rfl
    · exact ⟨rfl, Nat.le_refl _, fun _ _ _ => rfl⟩
  · exact ⟨rfl, Nat.le_refl _, fun _ _ _ => rfl⟩
theorem load_st {H : AH} {v : Value} {i : Nat} {x : Value} {g : Option Nat} {b o : Nat} (hd : blkOf v ≠ some b) : opLoad g (.pointer (some ⟨b, o, none⟩)) (stH H v i x) = opLoad g (.pointer (some ⟨b, o, none⟩)) H := by
  have e : (stH H v i x).get b = H.get b := by
    unfold stH
    split
    · split
      · refine get_put_ne ?_
        rintro rfl; exact hd rfl
      · rfl
    · rfl
  cases g <;> simp only [opLoad, AH.read1, AH.readN, e]
theorem lo_st {H : AH} {v : Value} {i : Nat} {x : Value} : (stH H v i x).lo = H.lo := stH_kpx.1

/-! ### what an append makes -/

theorem KpX.of {x : Option Nat} {H H' : AH} (h : Kp H H') : KpX x H H' := ⟨h.1, h.2.1, fun i hi _ => h.2.2 i hi⟩
theorem Kp.app {x : Option Nat} {A H H' : AH} (hk : Kp A H) (h : KpX x H H') (hx : ∀ i, x = some i → A.size ≤ i) : Kp A H' :=
  ⟨h.1.trans hk.1, Nat.le_trans hk.2.1 h.2.1, fun i hi => (h.2.2 i (Nat.lt_of_lt_of_le hi hk.2.1) (fun he => absurd (hx i he) (by omega))).trans (hk.2.2 i hi)⟩
theorem SlC.app {x : Option Nat} {H H' : AH} {es n : Nat} {v : Value} {cs : List Value} (h : SlC H es v n cs) (hk : KpX x H H') (hx : ∀ b, blkOf v = some b → x ≠ some b) : SlC H' es v n cs := by
  have hlt := @SlC.lt _ _ _ _ _ h
  obtain ⟨h0, h | ⟨b, o, c, blk, h1, h2, h3, h4⟩⟩ := h
  · exact ⟨h0, .inl h⟩
  · have hb : blkOf v = some b := by rw [h1]; rfl
    refine ⟨h0, .inr ⟨b, o, c, blk, h1, h2, ?_, h4⟩⟩
    rw [hk.2.2 b (hlt hb) (hx b hb)]; exact h3

theorem splice_take {cs vs : List Value} {o n : Nat} (h : o + n + vs.length ≤ cs.length) : ((splice cs (o + n) vs).drop o).take (n + vs.length) = (cs.drop o).take n ++ vs := by
  unfold splice
  apply List.ext_getElem?
  intro i
  simp only [List.getElem?_take, List.getElem?_drop, List.getElem?_append, List.length_append, List.length_take, List.length_drop]
  have e1 : min (o + n) cs.length = o + n := Nat.min_eq_left (by omega)
  have e2 : min n (cs.length - o) = n := Nat.min_eq_left (by omega)
  rw [e1, e2]
  by_cases h1 : i < n
  · rw [if_pos (by omega), if_pos (by omega), if_pos (by omega), if_pos (by omega), if_pos h1, if_pos h1]
  · rw [if_neg h1]
    by_cases h2 : i < n + vs.length
    · rw [if_pos h2, if_pos (by omega), if_neg (by omega)]
      congr 1; omega
    · rw [if_neg h2, List.getElem?_eq_none (by omega)]

/-- An append to a slice of one's own. -/
theorem append_own {H : AH} {es bytes n m lo : Nat} {v x : Value} {cs new : List Value} (h : SlC H es v n cs) (hlo : ∀ b, blkOf v = some b → lo ≤ b) (hl : H.lo ≤ lo)
    (hm : srcLen x = some m) (hnew : srcCells es m x H = some new) (hn : new.length = m * es) (hone : new.all Value.oneCell' = true) (hb : n + m ≤ 1099511627776 ∧ bytes ≤ 64) :
    ∃ v' H', opAppend es bytes v x H = some (v', H') ∧ SlC H' es v' (n + m) (cs ++ new) ∧ KpX (blkOf v) H H' ∧ (∀ b, blkOf v' = some b → blkOf v = some b ∨ H.size ≤ b) := by
  obtain ⟨h0, ⟨rfl, rfl⟩ | ⟨b, o, c, blk, h1, h2, h3, h4, h5, h6⟩⟩ := h
  · have hcs : cs = [] := by simpa using h0
    subst hcs
    by_cases hm0 : m = 0
    · subst hm0
      have : new = [] := by simpa using hn
      subst this
      refine ⟨.slice none 0 0, H, ?_, .nil, .of .refl, fun b h => by cases h⟩
      simp [opAppend, hm, hnew]
    · refine ⟨.slice (some ⟨H.size, 0, none⟩) m m, H.alloc ⟨new, es⟩, ?_, ?_, .of (Kp.refl.alloc), ?_⟩
      · simp [opAppend, hm, hnew, hm0, hone, hb]; omega
      · refine ⟨by simpa using hn, .inr ⟨H.size, 0, m, _, by simp, by simp, get_alloc_self rfl, rfl, by simp [hn], ?_⟩⟩
        simp [← hn]
      · intro b hb; cases hb; exact .inr (Nat.le_refl _)
  · have hbo : blkOf v = some b := by rw [h1]; rfl
    have hle2 : n * es ≤ c * es := Nat.mul_le_mul_right _ h2
    have hlob : H.lo ≤ b := Nat.le_trans hl (hlo b hbo)
    have hcl : cs.length = n * es := h0
    by_cases hfit : n + m ≤ c
    · have hle3 : (n + m) * es ≤ c * es := Nat.mul_le_mul_right _ hfit
      have e1 : (n + m) * es = n * es + m * es := Nat.add_mul _ _ _
      refine ⟨.slice (some ⟨b, o, none⟩) (n + m) c, H.put b (some ⟨splice blk.cells (o + n * es) new, blk.es⟩), ?_, ?_, ?_, ?_⟩
      · rw [h1]
        simp only [opAppend, hm, hnew, if_pos hfit, AH.write, h3]
        rw [if_pos ⟨hlob, by omega, hone⟩]
      · refine ⟨by simp [h0, hn, e1], .inr ⟨b, o, c, _, rfl, hfit, get_put_self ⟨rfl, get_lt h3⟩, h4, ?_, ?_⟩⟩
        · rw [splice_length (by omega)]; exact h5
        · rw [e1, ← hn, splice_take (by omega), h6]
      · refine ⟨rfl, by rw [size_put]; exact Nat.le_refl _, fun i hi hne => get_put_ne ?_⟩
        rintro rfl; exact hne hbo
      · intro b' hb'; cases hb'; exact .inl hbo
    · refine ⟨.slice (some ⟨H.size, 0, none⟩) (n + m) (n + m), (H.put b none).alloc ⟨cs ++ new, es⟩, ?_, ?_, ?_, ?_⟩
      · rw [h1]
        simp only [opAppend, hm, hnew, if_neg hfit, hone, hb, AH.readN, h3, if_pos (show o + n * es ≤ blk.cells.length by omega), h6, hlob, h4, and_self, if_true]
      · refine ⟨by simp [h0, hn, Nat.add_mul], .inr ⟨H.size, 0, n + m, _, rfl, Nat.le_refl _, get_alloc_self (by rw [size_put]), rfl, ?_, ?_⟩⟩
        · simp [h0, hn, Nat.add_mul]
        · rw [List.drop_zero]
          exact List.take_of_length_le (by simp [h0, hn, Nat.add_mul])
      · refine ⟨rfl, by rw [size_alloc, size_put]; omega, fun i hi hne => ?_⟩
        rw [get_alloc_lt (by rw [size_put]; exact hi)]
        exact get_put_ne (by rintro rfl; exact hne hbo)
      · intro b' hb'; cases hb'; exact .inr (Nat.le_refl _)

end Go.AE
set_option linter.unusedVariables false
namespace Go.AE

def strOf : Value → Option Str
  | .string b => some b.data.toList
  | _ => none
def strsOf : List Value → Option (List Str)
  | [] => some []
  | v :: r => (match strOf v, strsOf r with | some s, some l => some (s :: l) | _, _ => none)

def leS (a b : Str) : Bool := !decide (b < a)
/-- shorter ones first, those of one length in order -/
def leL (a b : Str) : Bool := decide (a.length < b.length) || (decide (a.length = b.length) && leS a b)

/-- A list of strings turned in place. -/
def extTurn (f : List Str → List Str) : Value → AH → Option AH
  | .slice a n _, H => if n = 0 then some H else (match a, decide (n ≤ 1099511627776) with
    | some a, true => (match H.readN a n with
      | some cs => (match strsOf cs with | some l => H.write a ((f l).map sv) | none => none)
      | none => none)
    | _, _ => none)
  | _, _ => none

def extSort : Ext := fun args H => match args with
  | [v] => (match extTurn (fun l => l.mergeSort leS) v H with | some H' => some (.tuple #[], H') | none => none)
  | _ => none
def extSortBy (g : Nat) (le : Str → Str → Bool) : Ext := fun args H => match args with
  | [v, .func (.func g') f c] => if g' = g ∧ f.size = 0 ∧ c.size = 0 then (match extTurn (fun l => l.mergeSort le) v H with | some H' => some (.tuple #[], H') | none => none) else none
  | _ => none
def extCompare : Ext := fun args H => match args with
  | [.string a, .string b] => some (.int .i64 (if a.data.toList < b.data.toList then -1 else if b.data.toList < a.data.toList then 1 else 0), H)
  | _ => none

/-- equal neighbours once -/
def dedup : List Str → List Str
  | [] => []
  | [a] => [a]
  | a :: b :: r => if a = b then dedup (b :: r) else a :: dedup (b :: r)
def extCompact : Ext := fun args H => match args with
  | [.slice none 0 0] => some (.slice none 0 0, H)
  | [.slice (some a) n c] => (match H.readN a n with
    | some cs => (match strsOf cs, decide (n ≤ c ∧ n ≤ 1099511627776) with
      | some l, true => (match H.write a ((dedup l ++ List.replicate (n - (dedup l).length) []).map sv) with
        | some H' => some (.slice (some a) (dedup l).length c, H')
        | none => none)
      | _, _ => none)
    | none => none)
  | _ => none

end Go.AE
namespace Go.AE
section
variable {α : Type} [Inhabited α] {l : List α} {p : α → Bool} {k : Nat}
theorem getD_eq (hk : k < l.length) : l.getD k default = l[k] := by simp [List.getD, List.getElem?_eq_getElem hk]
theorem all_false (hk : k < l.length) (h : p (l.getD k default) = false) : l.all p = false := by
  rw [getD_eq hk] at h
  rw [List.all_eq_false]
  exact ⟨l[k], List.getElem_mem hk, by simp [h]⟩
theorem all_true (h : ∀ k, k < l.length → p (l.getD k default) = true) : l.all p = true := by
  rw [List.all_eq_true]
  intro x hx
  obtain ⟨i, hi, rfl⟩ := List.getElem_of_mem hx
  have := h i hi
  rwa [getD_eq hi] at this
theorem any_true (hk : k < l.length) (h : p (l.getD k default) = true) : l.any p = true := by
  rw [getD_eq hk] at h
  rw [List.any_eq_true]
  exact ⟨l[k], List.getElem_mem hk, h⟩
theorem any_false (h : ∀ k, k < l.length → p (l.getD k default) = false) : l.any p = false := by
  rw [List.any_eq_false]
  intro x hx
  obtain ⟨i, hi, rfl⟩ := List.getElem_of_mem hx
  have := h i hi
  rw [getD_eq hi] at this
  simp [this]
theorem take_succ_getD (hk : k < l.length) : l.take (k + 1) = l.take k ++ [l.getD k default] := by
  rw [getD_eq hk, List.take_append_getElem hk]
end
end Go.AE
set_option linter.unusedVariables false
set_option linter.unusedSimpArgs false
namespace Go.AE

/-- A slice in a block from n0 on, or in none. -/
def Own {α : Type} (f : α → Value) (n0 : Nat) (H : AH) (v : Value) (l : List α) : Prop := Sl f H v l ∧ ∀ b, blkOf v = some b → n0 ≤ b

theorem Own.kp {α : Type} {f : α → Value} {n0 : Nat} {H H' : AH} {v : Value} {l : List α} (h : Own f n0 H v l) (hk : Kp H H') : Own f n0 H' v l := ⟨h.1.kp hk, h.2⟩
theorem Own.nil {α : Type} {f : α → Value} {n0 : Nat} {H : AH} : Own f n0 H (.slice none 0 0) [] := ⟨.nil, fun b h => by cases h⟩
theorem Own.app {α : Type} {f : α → Value} {n0 : Nat} {H H' : AH} {v : Value} {l : List α} {x : Option Nat} (h : Own f n0 H v l) (hk : KpX x H H') (hx : ∀ b, blkOf v = some b → x ≠ some b) : Own f n0 H' v l := ⟨SlC.app h.1 hk hx, h.2⟩
theorem Own.to {α : Type} {f : α → Value} {n0 n1 : Nat} {H : AH} {v : Value} {l : List α} (h : Own f n0 H v l) (hn : n1 ≤ n0) : Own f n1 H v l := ⟨h.1, fun b hb => Nat.le_trans hn (h.2 b hb)⟩

theorem bs1 {z x : Value} {H : AH} (hx : x.cells = #[x]) : opBuildSlice 1 1 #[z] [(0, x)] H = some (.slice (some ⟨H.size, 0, none⟩) 1 1, H.alloc ⟨[x], 1⟩) := by
  simp [opBuildSlice, Instr.fill, hx]
theorem bs0 {z : Value} {H : AH} : opBuildSlice 1 0 #[z] [] H = some (.slice (some ⟨H.size, 0, none⟩) 0 0, H.alloc ⟨[], 1⟩) := by
  simp [opBuildSlice, Instr.fill]
theorem bs0e {H : AH} : opBuildSlice 1 0 #[] [] H = some (.slice (some ⟨H.size, 0, none⟩) 0 0, H.alloc ⟨[], 1⟩) := by
  simp [opBuildSlice, Instr.fill]
theorem get_ge {H : AH} {i : Nat} (h : H.size ≤ i) : H.get i = none := by
  unfold AH.get AH.size at *; rw [List.getElem?_eq_none h]; rfl
theorem Sl.one1 {α : Type} {f : α → Value} {H : AH} {a : α} : Sl f (H.alloc ⟨[f a], 1⟩) (.slice (some ⟨H.size, 0, none⟩) 1 1) [a] := Sl.fresh (get_alloc_self rfl) rfl rfl
theorem Own.one1 {α : Type} {f : α → Value} {H : AH} {a : α} {n0 : Nat} (h : n0 ≤ H.size) : Own f n0 (H.alloc ⟨[f a], 1⟩) (.slice (some ⟨H.size, 0, none⟩) 1 1) [a] := ⟨.one1, fun b hb => by cases hb; exact h⟩
theorem Own.zero {α : Type} {f : α → Value} {H : AH} {n0 : Nat} (h : n0 ≤ H.size) : Own f n0 (H.alloc ⟨[], 1⟩) (.slice (some ⟨H.size, 0, none⟩) 0 0) [] := ⟨Sl.fresh (get_alloc_self rfl) rfl rfl, fun b hb => by cases hb; exact h⟩

theorem append_sl {α : Type} {f : α → Value} {H : AH} {bytes n0 : Nat} {v x : Value} {l m : List α} (h : Own f n0 H v l) (hl : H.lo ≤ n0) (hx : Sl f H x m) (h1 : ∀ a, (f a).oneCell' = true)
    (hb : l.length + m.length ≤ 1099511627776 ∧ bytes ≤ 64) (hs : n0 ≤ H.size) :
    ∃ v' H', opAppend 1 bytes v x H = some (v', H') ∧ Own f n0 H' v' (l ++ m) ∧ KpX (blkOf v) H H' ∧ (∀ b, blkOf v' = some b → blkOf v = some b ∨ H.size ≤ b) := by
  have hsrc := SlC.src hx
  have hcells := SlC.cells hx (Nat.le_refl _)
  rw [List.take_of_length_le (by simp)] at hcells
  obtain ⟨v', H', e, hS, hX, hbk⟩ := append_own (bytes := bytes) h.1 h.2 hl hsrc hcells (by simp) (by simp [h1]) hb
  refine ⟨v', H', e, ⟨?_, ?_⟩, hX, hbk⟩
  · unfold Sl; rw [List.map_append, List.length_append]; exact hS
  · intro b hb
    rcases hbk b hb with h' | h'
    · exact h.2 b h'
    · omega

/-- An append of one element that lies in a new block. -/
theorem append_1 {α : Type} {f : α → Value} {H : AH} {bytes n0 : Nat} {v : Value} {l : List α} {a : α} (h : Own f n0 H v l) (hl : H.lo ≤ n0) (h1 : ∀ a, (f a).oneCell' = true)
    (hb : l.length + 1 ≤ 1099511627776 ∧ bytes ≤ 64) (hs : n0 ≤ H.size) :
    ∃ v' H', opAppend 1 bytes v (.slice (some ⟨H.size, 0, none⟩) 1 1) (H.alloc ⟨[f a], 1⟩) = some (v', H') ∧ Own f n0 H' v' (l ++ [a]) ∧ KpX (blkOf v) H H' ∧ (∀ b, blkOf v' = some b → blkOf v = some b ∨ H.size ≤ b) := by
  obtain ⟨v', H', e, hS, hX, hbk⟩ := append_sl (bytes := bytes) (h.kp (Kp.refl.alloc (b := ⟨[f a], 1⟩))) hl Sl.one1 h1 (by simpa using hb) (by rw [size_alloc]; omega)
  refine ⟨v', H', e, hS, ⟨hX.1, ?_, ?_⟩, ?_⟩
  · have := hX.2.1; rw [size_alloc] at this; omega
  · intro i hi hne
    rw [hX.2.2 i (by rw [size_alloc]; omega) hne, get_alloc_lt hi]
  · intro b hb
    rcases hbk b hb with h' | h'
    · exact .inl h'
    · rw [size_alloc] at h'; exact .inr (by omega)

theorem strOf_sv {s : Str} : strOf (sv s) = some s := by simp [strOf, sv]
theorem strsOf_map {l : List Str} : strsOf (l.map sv) = some l := by
  induction l with
  | nil => rfl
  | cons a l ih => simp only [List.map_cons, strsOf, strOf_sv, ih]

theorem splice_all {cs vs : List Value} {o n : Nat} (h : o + n ≤ cs.length) (hn : vs.length = n) : ((splice cs o vs).drop o).take n = vs := by
  unfold splice
  rw [List.append_assoc, List.drop_append_of_le_length (by simp; omega), List.drop_take]
  simp only [Nat.sub_self, List.take_zero, List.nil_append]
  rw [List.take_append_of_le_length (by omega), List.take_of_length_le (by omega)]

/-- A list of strings turned in place. -/
theorem extTurn_ok {g : List Str → List Str} {n0 : Nat} {H : AH} {v : Value} {l : List Str} (h : Own sv n0 H v l) (hl : H.lo ≤ n0) (hg : (g l).length = l.length) (h0 : g [] = []) (hmax : l.length ≤ 1099511627776) :
    ∃ H', extTurn g v H = some H' ∧ Own sv n0 H' v (g l) ∧ KpX (blkOf v) H H' := by
  obtain ⟨⟨_, ⟨rfl, hl0⟩ | ⟨b, o, c, blk, e1, h2, h3, h4, h5, h6⟩⟩, ho⟩ := h
  · have : l = [] := List.length_eq_zero_iff.mp hl0
    subst this
    exact ⟨H, rfl, by rw [h0]; exact .nil, .of .refl⟩
  · have hb : H.lo ≤ b := Nat.le_trans hl (ho b (by rw [e1]; rfl))
    by_cases hl0 : l.length = 0
    · have : l = [] := List.length_eq_zero_iff.mp hl0
      subst this
      refine ⟨H, by rw [e1]; rfl, ?_, .of .refl⟩
      rw [h0]
      exact ⟨⟨by simp, .inr ⟨b, o, c, blk, e1, h2, h3, h4, h5, h6⟩⟩, ho⟩
    refine ⟨H.put b (some ⟨splice blk.cells o ((g l).map sv), blk.es⟩), ?_, ⟨?_, ho⟩, ?_⟩
    · rw [e1]
      simp only [Nat.mul_one] at h6
      simp only [extTurn, if_neg hl0, decide_eq_true hmax, AH.readN, h3, if_pos (show o + l.length ≤ blk.cells.length by omega), h6, strsOf_map, AH.write]
      rw [if_pos ⟨hb, by simp; omega, by simp [sv_one]⟩]
    · refine ⟨by simp, .inr ⟨b, o, c, ⟨splice blk.cells o ((g l).map sv), blk.es⟩, by rw [e1, hg], by rw [hg]; exact h2, get_put_self ⟨rfl, get_lt h3⟩, h4, ?_, ?_⟩⟩
      · rw [splice_length (by simp; omega)]; exact h5
      · rw [splice_all (n := (g l).length * 1) (by rw [hg]; omega) (by simp)]
    · rw [e1]
      refine ⟨rfl, by rw [size_put]; exact Nat.le_refl _, fun i hi hne => get_put_ne ?_⟩
      rintro rfl; exact hne rfl

theorem dedup_le {l : List Str} : (dedup l).length ≤ l.length := by
  induction l using dedup.induct with
  | case1 => simp [dedup]
  | case2 a => simp [dedup]
  | case3 b r ih => simp only [dedup, if_true]; simp only [List.length_cons] at *; omega
  | case4 a b r hne ih => simp only [dedup, if_neg hne]; simp only [List.length_cons] at *; omega

theorem extCompact_ok {n0 : Nat} {H : AH} {v : Value} {l : List Str} (h : Own sv n0 H v l) (hl : H.lo ≤ n0) (hmax : l.length ≤ 1099511627776) :
    ∃ v' H', extCompact [v] H = some (v', H') ∧ Own sv n0 H' v' (dedup l) ∧ KpX (blkOf v) H H' ∧ blkOf v' = blkOf v := by
  obtain ⟨⟨_, ⟨rfl, hl0⟩ | ⟨b, o, c, blk, e1, h2, h3, h4, h5, h6⟩⟩, ho⟩ := h
  · have : l = [] := List.length_eq_zero_iff.mp hl0
    subst this
    exact ⟨.slice none 0 0, H, rfl, .nil, .of .refl, rfl⟩
  · have hb : H.lo ≤ b := Nat.le_trans hl (ho b (by rw [e1]; rfl))
    have hd := @dedup_le l
    have hlen : ((dedup l ++ List.replicate (l.length - (dedup l).length) []).map sv).length = l.length := by simp; omega
    refine ⟨.slice (some ⟨b, o, none⟩) (dedup l).length c, H.put b (some ⟨splice blk.cells o ((dedup l ++ List.replicate (l.length - (dedup l).length) []).map sv), blk.es⟩), ?_, ⟨?_, ?_⟩, ?_, by rw [e1]; rfl⟩
    · rw [e1]
      simp only [Nat.mul_one] at h6
      simp only [extCompact, AH.readN, h3, if_pos (show o + l.length ≤ blk.cells.length by omega), h6, strsOf_map, decide_eq_true (show l.length ≤ c ∧ l.length ≤ 1099511627776 from ⟨h2, hmax⟩), AH.write]
      rw [if_pos ⟨hb, by rw [hlen]; omega, by simp [sv_one]⟩]
    · refine ⟨by simp, .inr ⟨b, o, c, ⟨splice blk.cells o ((dedup l ++ List.replicate (l.length - (dedup l).length) []).map sv), blk.es⟩, rfl, by omega, get_put_self ⟨rfl, get_lt h3⟩, h4, ?_, ?_⟩⟩
      · rw [splice_length (by rw [hlen]; omega)]; exact h5
      · have := splice_all (cs := blk.cells) (o := o) (n := l.length) (by omega) hlen
        have h7 := congrArg (List.take (dedup l).length) this
        rw [List.take_take, Nat.min_eq_left hd] at h7
        simp only [Nat.mul_one]
        rw [h7, List.map_append, List.take_append_of_le_length (by simp), List.take_of_length_le (by simp)]
    · intro b' hb'; cases hb'; exact ho b (by rw [e1]; rfl)
    · rw [e1]
      refine ⟨rfl, by rw [size_put]; exact Nat.le_refl _, fun i hi hne => get_put_ne ?_⟩
      rintro rfl; exact hne rfl
end Go.AE
set_option linter.defProp false
namespace Go.AE
def R1 {E : Env} := (And.intro (@AWP_draw_eq E) (And.intro (@ADr_cons_eq E) (And.intro (@ADr_nil0 E) (And.intro (@Dk_normal E) (And.intro (@AWP_ops_eq E) (And.intro (@AWP_skip_eq E) (And.intro (@AWP_ret_eq E) (And.intro (@AWP_exit_eq E) (And.intro (@AWP_seq_eq E) (And.intro (@AWP_cond_eq E) (And.intro (@AWP_block_eq E) (And.intro (@Sq_normal E) (And.intro (@Sq_ret E) (And.intro (@Sq_exit E) (And.intro (@ACond_true E) (And.intro (@ACond_false E) (And.intro (@AOps_nil E) (And.intro (@AOps_call E) (And.intro (@AOps_guard E) (And.intro (@AGd_tt E) (And.intro (@AGd_ff E) (And.intro (@AGd_tf E) (And.intro (@AGd_ft E) (And.intro (@AGd_undef E) (And.intro (@AVH_some E) (And.intro (@AVH_oV E) (And.intro (@AVH_oH E) (And.intro (@AClo_plain E) (And.intro (@AClo_cap E) (And.intro (@Kc_eq E) (And.intro (@w_mv E) (And.intro (@w_pick E) (And.intro (@w_alloc E) (And.intro (@w_box E) (And.intro (@w_build E) (And.intro (@w_buildSlice E) (And.intro (@w_load E) (And.intro (@w_store E) (And.intro (@w_nilCheck E) (And.intro (@w_bin E) (And.intro (@w_un E) (And.intro (@w_conv E) (And.intro (@w_bytesToStr E) (And.intro (@w_mkFunc E) (And.intro (@w_makeSlice E) (And.intro (@w_sliceStr E) (And.intro (@w_sliceSl E) (And.intro (@w_fieldAddr E) (And.intro (@w_field E) (And.intro (@w_indexAddr E) (And.intro (@w_indexStr E) (And.intro (@w_extract E) (And.intro (@w_len E) (And.intro (@w_append E) (And.intro (@w_copy E) (And.intro (@w_min2 E) (@w_max2 E)))))))))))))))))))))))))))))))))))))))))))))))))))))))))
def R2 := (And.intro (@ForP_normal) (And.intro (@ForP_exit) (And.intro (@ForP_ret) (And.intro (@Blkp_normal) (And.intro (@Blkp_ret) (And.intro (@Blkp_exit) (And.intro (@Up_normal) (And.intro (@Up_ret) (And.intro (@Up_exit) (And.intro (@Lp_normal) (And.intro (@Lp_ret) (And.intro (@Lp_exit) (And.intro (@Fin_ret) (And.intro (@Fin_normal) (And.intro (@FinR_nil) (And.intro (@FinR_tmp) (And.intro (@FinR_cell) (And.intro (@FinC_some) (And.intro (@up_app) (And.intro (@upO_some) (And.intro (@upO_none) (And.intro (@ev_tmp) (And.intro (@ev_const) (And.intro (@ev_func) (And.intro (@init0) (And.intro (@init1) (And.intro (@init2) (And.intro (@init3) (And.intro (@init4) (And.intro (@init5) (And.intro (@init6) (And.intro (@init7) (And.intro (@tup0) (And.intro (@tup1) (And.intro (@tup2) (And.intro (@tup3) (And.intro (@tup4) (@tup5))))))))))))))))))))))))))))))))))))))
def RV := (And.intro (@bv_eq) (And.intro (@bin_add) (And.intro (@bin_sub) (And.intro (@bin_mul) (And.intro (@bin_quo) (And.intro (@bin_rem) (And.intro (@bin_eql) (And.intro (@bin_neq) (And.intro (@bin_lss) (And.intro (@bin_leq) (And.intro (@bin_gtr) (And.intro (@bin_geq) (And.intro (@un_neg) (And.intro (@un_not) (And.intro (@conv_int) (And.intro (@min_int) (And.intro (@max_int) (And.intro (@bool_eql) (And.intro (@bool_neq) (And.intro (@opPick_bool) (And.intro (@wrap64) (And.intro (@wrap8) (And.intro (@tdiv_pos) (And.intro (@tmod_pos) (And.intro (@len_sv) (And.intro (@idx_sv) (And.intro (@str_add) (And.intro (@str_eql) (And.intro (@str_neq) (And.intro (@str_lss) (And.intro (@str_geq) (And.intro (@str_leq) (And.intro (@str_gtr) (And.intro (@slc_str) (And.intro (@slc_str_lo) (And.intro (@slc_str_hi) (And.intro (@fieldAddr_p) (And.intro (@nil_p) (And.intro (@load_self) (And.intro (@loadN_self) (And.intro (@get_zero) (And.intro (@get_succ) (And.intro (@load_lt) (And.intro (@store_all) (And.intro (@store_one) (And.intro (@store_lt) (And.intro (@oMap_some) (And.intro (@mk_slice) (And.intro (@build2) (And.intro (@build3) (And.intro (@size_alloc) (And.intro (@size_put) (And.intro (@lo_alloc) (And.intro (@oAgg_all) (And.intro (@bs1) (And.intro (@bs0) (And.intro (@bs0e) (And.intro (@ext_tuple) (And.intro (@vset_zero) (@vset_succ))))))))))))))))))))))))))))))))))))))))))))))))))))))))))))
def RL := (And.intro (@vapp_nil) (And.intro (@vapp_cons) (And.intro (@vapp_r) (And.intro (@mev_nil) (And.intro (@mev_cons) (And.intro (@mep_nil) (And.intro (@mep_cons) (And.intro (@oev_some) (And.intro (@oev_none) (And.intro (@vcond_t) (And.intro (@vcond_f) (And.intro (@toNat_cast) (And.intro (@not_t) (And.intro (@not_f) (And.intro (@cells_agg) (@arr_toList))))))))))))))))
def RK := (And.intro (@int_cells) (And.intro (@bool_cells) (And.intro (@slice_cells) (And.intro (@ptr_cells) (And.intro (@func_cells) (And.intro (@sv_cells) (And.intro (@int_one) (And.intro (@bool_one) (And.intro (@slice_one) (And.intro (@ptr_one) (And.intro (@func_one) (And.intro (@sv_one) (And.intro (@vlen_nil) (And.intro (@vlen_cons) (And.intro (@vall_nil) (And.intro (@vall_cons) (And.intro (@band_tt) (And.intro (@cells_agg) (And.intro (@arr_toList) (And.intro (@wf_alloc) (And.intro (@wf_alloc3) (@wf_alloc5))))))))))))))))))))))
def R := And.intro @R2 (And.intro @RV @RL)
end Go.AE
set_option linter.unusedVariables false
set_option linter.unusedSimpArgs false
namespace Go.AE

def nv (n : Nat) : Value := .int .i64 n
abbrev Nats := @Sl Nat nv

theorem bv64 {a : Nat} (h : a < 9223372036854775808) : BitVec.ofInt 64 (a : Int) = BitVec.ofNat 64 a := by
  apply BitVec.eq_of_toNat_eq
  simp [BitVec.toNat_ofInt]
theorem bin_and64 {kd : Nat} {c : Bool} {a b : Int} : opBin kd c .and (.int .i64 a) (.int .i64 b) = some (.int .i64 (IntKind.i64.wrap ((BitVec.ofInt 64 a &&& BitVec.ofInt 64 b : BitVec 64).toNat))) := rfl
theorem nat_and {kd : Nat} {c : Bool} {a b : Nat} (h : a < 9223372036854775808 ∧ b < 9223372036854775808) : opBin kd c .and (.int .i64 a) (.int .i64 b) = some (.int .i64 ((a &&& b : Nat) : Int)) := by
  have hb := Nat.and_le_left (n := a) (m := b)
  rw [bin_and64, bv64 h.1, bv64 h.2, BitVec.toNat_and, BitVec.toNat_ofNat, BitVec.toNat_ofNat]
  rw [Nat.mod_eq_of_lt (show a < 2 ^ 64 by omega), Nat.mod_eq_of_lt (show b < 2 ^ 64 by omega), wrap64 (by omega)]
theorem bin_or64 {kd : Nat} {c : Bool} {a b : Int} : opBin kd c .or (.int .i64 a) (.int .i64 b) = some (.int .i64 (IntKind.i64.wrap ((BitVec.ofInt 64 a ||| BitVec.ofInt 64 b : BitVec 64).toNat))) := rfl
theorem nat_or {kd : Nat} {c : Bool} {a b : Nat} (h : a < 4611686018427387904 ∧ b < 4611686018427387904) : opBin kd c .or (.int .i64 a) (.int .i64 b) = some (.int .i64 ((a ||| b : Nat) : Int)) := by
  have hb : a ||| b < 2 ^ 62 := Nat.or_lt_two_pow (by omega) (by omega)
  rw [bin_or64, bv64 (show a < 9223372036854775808 by omega), bv64 (show b < 9223372036854775808 by omega), BitVec.toNat_or, BitVec.toNat_ofNat, BitVec.toNat_ofNat]
  rw [Nat.mod_eq_of_lt (show a < 2 ^ 64 by omega), Nat.mod_eq_of_lt (show b < 2 ^ 64 by omega), wrap64 (by omega)]
theorem bin_xor64 {kd : Nat} {c : Bool} {a b : Int} : opBin kd c .xor (.int .i64 a) (.int .i64 b) = some (.int .i64 (IntKind.i64.wrap ((BitVec.ofInt 64 a ^^^ BitVec.ofInt 64 b : BitVec 64).toNat))) := rfl
theorem nat_xor {kd : Nat} {c : Bool} {a b : Nat} (h : a < 4611686018427387904 ∧ b < 4611686018427387904) : opBin kd c .xor (.int .i64 a) (.int .i64 b) = some (.int .i64 ((a ^^^ b : Nat) : Int)) := by
  have hb : a ^^^ b < 2 ^ 62 := Nat.xor_lt_two_pow (by omega) (by omega)
  rw [bin_xor64, bv64 (show a < 9223372036854775808 by omega), bv64 (show b < 9223372036854775808 by omega), BitVec.toNat_xor, BitVec.toNat_ofNat, BitVec.toNat_ofNat]
  rw [Nat.mod_eq_of_lt (show a < 2 ^ 64 by omega), Nat.mod_eq_of_lt (show b < 2 ^ 64 by omega), wrap64 (by omega)]
theorem bin_andNot64 {kd : Nat} {c : Bool} {a b : Int} : opBin kd c .andNot (.int .i64 a) (.int .i64 b) = some (.int .i64 (IntKind.i64.wrap ((BitVec.ofInt 64 a &&& ~~~BitVec.ofInt 64 b : BitVec 64).toNat))) := rfl
theorem nat_andNot {kd : Nat} {c : Bool} {a b : Nat} (h : a < 9223372036854775808 ∧ b < 9223372036854775808) : opBin kd c .andNot (.int .i64 a) (.int .i64 b) = some (.int .i64 ((a ^^^ (a &&& b) : Nat) : Int)) := by
  have hb := Nat.and_le_left (n := a) (m := b)
  have e : (BitVec.ofNat 64 a &&& ~~~BitVec.ofNat 64 b) = BitVec.ofNat 64 (a ^^^ (a &&& b)) := by
    apply BitVec.eq_of_getLsbD_eq
    intro i hi
    simp only [BitVec.getLsbD_and, BitVec.getLsbD_not, BitVec.getLsbD_ofNat, hi, decide_true, Bool.true_and, Nat.testBit_xor, Nat.testBit_and]
    cases a.testBit i <;> cases b.testBit i <;> rfl
  have hx : a ^^^ (a &&& b) < 2 ^ 63 := Nat.xor_lt_two_pow (by omega) (by omega)
  rw [bin_andNot64, bv64 h.1, bv64 h.2, e, BitVec.toNat_ofNat]
  rw [Nat.mod_eq_of_lt (show a ^^^ (a &&& b) < 2 ^ 64 by omega), wrap64 (by omega)]
theorem nat_shr {kd : Nat} {c : Bool} {k : IntKind} {a n : Nat} (h : n ≤ 64) : opBin kd c .shr (.int .i64 a) (.int k n) = some (.int .i64 ((a >>> n : Nat) : Int)) := by
  simp only [opBin, IntKind.bits, Int.toNat_natCast, Nat.min_eq_left h]
  rw [if_neg (by omega), Int.fdiv_eq_ediv_of_nonneg _ (Int.pow_nonneg (by omega)), Nat.shiftRight_eq_div_pow]
  norm_cast
theorem nat_shl1 {kd : Nat} {c : Bool} {k : IntKind} {n : Nat} (h : n < 62) : opBin kd c .shl (.int .i64 1) (.int k n) = some (.int .i64 ((2 ^ n : Nat) : Int)) := by
  have hp : 2 ^ n < 2 ^ 62 := Nat.pow_lt_pow_right (by omega) h
  simp only [opBin, IntKind.bits, Int.toNat_natCast, Nat.min_eq_left (show n ≤ 64 by omega)]
  rw [if_neg (by omega), Int.one_mul, show (2 : Int) ^ n = ((2 ^ n : Nat) : Int) by norm_cast]
  generalize 2 ^ n = m at hp ⊢
  rw [wrap64 (by omega)]
end Go.AE
set_option linter.unusedVariables false
namespace Go.AE

/-- What lies in one block, or in none. -/
structure Rs where
  blk : Option Nat
  ok : AH → Prop
  loc : ∀ H H', ok H → (∀ b, blk = some b → H'.get b = H.get b) → ok H'
  lt : ∀ H, ok H → ∀ b, blk = some b → b < H.size

theorem SlC.loc {H H' : AH} {es n : Nat} {v : Value} {cs : List Value} (h : SlC H es v n cs) (hk : ∀ b, blkOf v = some b → H'.get b = H.get b) : SlC H' es v n cs := by
  obtain ⟨h0, h | ⟨b, o, c, blk, h1, h2, h3, h4⟩⟩ := h
  · exact ⟨h0, .inl h⟩
  · exact ⟨h0, .inr ⟨b, o, c, blk, h1, h2, by rw [hk b (by rw [h1]; rfl)]; exact h3, h4⟩⟩

def Rs.box (b : Nat) (B : Blk) : Rs := ⟨some b, fun H => H.get b = some B, fun H H' h hk => by rw [hk b rfl]; exact h, fun H h b' hb => by cases hb; exact get_lt h⟩
def Rs.own {α : Type} (f : α → Value) (v : Value) (l : List α) : Rs := ⟨blkOf v, fun H => Sl f H v l, fun H H' h hk => SlC.loc h hk, fun H h b hb => SlC.lt h hb⟩
def Rs.sl (es : Nat) (v : Value) (n : Nat) (cs : List Value) : Rs := ⟨blkOf v, fun H => SlC H es v n cs, fun H H' h hk => SlC.loc h hk, fun H h b hb => SlC.lt h hb⟩

structure Sep (n0 : Nat) (H : AH) (rs : List Rs) : Prop where
  ok : ∀ r ∈ rs, r.ok H
  ge : ∀ r ∈ rs, ∀ b, r.blk = some b → n0 ≤ b
  dj : rs.Pairwise fun r s => ∀ b, r.blk = some b → s.blk ≠ some b

theorem Sep.nil {n0 : Nat} {H : AH} : Sep n0 H [] := ⟨by simp, by simp, .nil⟩
theorem Sep.kp {n0 : Nat} {H H' : AH} {rs : List Rs} (h : Sep n0 H rs) (hk : Kp H H') : Sep n0 H' rs :=
  ⟨fun r hr => r.loc H H' (h.ok r hr) fun b hb => hk.2.2 b (r.lt H (h.ok r hr) b hb), h.ge, h.dj⟩
theorem Sep.to {n0 n1 : Nat} {H : AH} {rs : List Rs} (h : Sep n0 H rs) (hn : n1 ≤ n0) : Sep n1 H rs := ⟨h.ok, fun r hr b hb => Nat.le_trans hn (h.ge r hr b hb), h.dj⟩
theorem Sep.perm {n0 : Nat} {H : AH} {rs ss : List Rs} (h : Sep n0 H rs) (hp : rs.Perm ss) : Sep n0 H ss :=
  ⟨fun r hr => h.ok r (hp.mem_iff.mpr hr), fun r hr => h.ge r (hp.mem_iff.mpr hr), h.dj.perm hp (fun {a b} hab c hc hd => hab c hd hc)⟩
theorem Sep.sub {n0 : Nat} {H : AH} {rs ss : List Rs} (h : Sep n0 H rs) (hp : ss.Sublist rs) : Sep n0 H ss :=
  ⟨fun r hr => h.ok r (hp.subset hr), fun r hr => h.ge r (hp.subset hr), h.dj.sublist hp⟩
theorem Sep.get {n0 : Nat} {H : AH} {rs : List Rs} (h : Sep n0 H rs) (i : Nat) {r : Rs} (hi : rs[i]? = some r) : r.ok H := h.ok r (List.mem_of_getElem? hi)

/-- Something new. -/
theorem Sep.new {n0 : Nat} {H H' : AH} {rs : List Rs} {r : Rs} (h : Sep n0 H rs) (hk : Kp H H') (hr : r.ok H') (hf : ∀ b, r.blk = some b → H.size ≤ b) (hn : n0 ≤ H.size) : Sep n0 H' (r :: rs) := by
  refine ⟨?_, ?_, ?_⟩
  · intro s hs
    rcases List.mem_cons.mp hs with rfl | hs
    · exact hr
    · exact (h.kp hk).ok s hs
  · intro s hs b hb
    rcases List.mem_cons.mp hs with rfl | hs
    · exact Nat.le_trans hn (hf b hb)
    · exact h.ge s hs b hb
  · refine List.Pairwise.cons (fun s hs b hb hb' => ?_) h.dj
    have h1 := hf b hb
    have h2 := s.lt H (h.ok s hs) b hb'
    omega

/-- The first of them turned. -/
theorem Sep.head {n0 : Nat} {H H' : AH} {rs : List Rs} {r r' : Rs} (h : Sep n0 H (r :: rs)) (hk : KpX r.blk H H') (hr : r'.ok H') (hf : ∀ b, r'.blk = some b → r.blk = some b ∨ H.size ≤ b) (hn : n0 ≤ H.size) : Sep n0 H' (r' :: rs) := by
  have hd := List.pairwise_cons.mp h.dj
  refine ⟨?_, ?_, ?_⟩
  · intro s hs
    rcases List.mem_cons.mp hs with rfl | hs
    · exact hr
    · have hs' := h.ok s (.tail _ hs)
      exact s.loc H H' hs' fun b hb => hk.2.2 b (s.lt H hs' b hb) fun e => hd.1 s hs b e hb
  · intro s hs b hb
    rcases List.mem_cons.mp hs with rfl | hs
    · rcases hf b hb with h' | h'
      · exact h.ge r (.head _) b h'
      · omega
    · exact h.ge s (.tail _ hs) b hb
  · refine List.Pairwise.cons (fun s hs b hb hb' => ?_) hd.2
    rcases hf b hb with h' | h'
    · exact hd.1 s hs b h' hb'
    · have := s.lt H (h.ok s (.tail _ hs)) b hb'
      omega
theorem set_perm {α : Type} : ∀ {l : List α} {i : Nat} {a b : α}, l[i]? = some a → ∃ r, l.Perm (a :: r) ∧ (l.set i b).Perm (b :: r)
  | x :: l, 0, a, b, h => by
    cases h
    exact ⟨l, .refl _, .refl _⟩
  | x :: l, i + 1, a, b, h => by
    obtain ⟨r, h1, h2⟩ := set_perm (l := l) (i := i) (b := b) h
    exact ⟨x :: r, (h1.cons x).trans (.swap _ _ _), (h2.cons x).trans (.swap _ _ _)⟩
/-- One of them turned. -/
theorem Sep.upd {n0 : Nat} {H H' : AH} {rs : List Rs} (h : Sep n0 H rs) (i : Nat) {r r' : Rs} (hi : rs[i]? = some r) (hk : KpX r.blk H H') (hr : r'.ok H') (hf : ∀ b, r'.blk = some b → r.blk = some b ∨ H.size ≤ b) (hn : n0 ≤ H.size) : Sep n0 H' (rs.set i r') := by
  obtain ⟨q, h1, h2⟩ := set_perm (b := r') hi
  exact ((h.perm h1).head hk hr hf hn).perm h2.symm

/-- The heap behind a change of one of them is later than the one before all. -/
theorem Sep.base {A H H' : AH} {rs : List Rs} (h : Sep A.size H rs) (i : Nat) {r : Rs} (hi : rs[i]? = some r) (hA : Kp A H) (hk : KpX r.blk H H') : Kp A H' :=
  hA.app hk fun b hb => h.ge r (List.mem_of_getElem? hi) b hb

/-! ### stores into a box -/

def putB (H : AH) (b : Nat) (B : Blk) : AH := H.put b (some B)
theorem box_kpx {H : AH} {b : Nat} {B : Blk} : KpX (some b) H (putB H b B) := by
  refine ⟨rfl, by unfold putB; rw [size_put]; exact Nat.le_refl _, fun i hi hne => get_put_ne ?_⟩
  rintro rfl; exact hne rfl
theorem box_get {H : AH} {b : Nat} {B C : Blk} (h : H.get b = some C) : (putB H b B).get b = some B := get_put_self ⟨rfl, get_lt h⟩
theorem box_store {H : AH} {b : Nat} {es : Nat} {u x : Value} (h : H.get b = some ⟨[u], es⟩) (hl : H.lo ≤ b) (hx : x.cells = #[x]) (h1 : x.oneCell' = true) :
    opStore 1 (.pointer (some ⟨b, 0, none⟩)) x H = some (putB H b ⟨[x], es⟩) := by
  have := store_at (o := 0) (n := 1) (x := x) h (by rw [hx]; rfl) hl (by simp) (by rw [hx]; simp [h1])
  rw [this, hx]; rfl
theorem boxN_store {H : AH} {b n : Nat} {es : Nat} {cs ns : List Value} (h : H.get b = some ⟨cs, es⟩) (hl : H.lo ≤ b) (hn : ns.length = n) (hc : cs.length = n) (h1 : ns.all Value.oneCell' = true) :
    opStore n (.pointer (some ⟨b, 0, none⟩)) (.agg ns.toArray) H = some (putB H b ⟨ns, es⟩) := by
  have := store_at (o := 0) (n := n) (x := .agg ns.toArray) h (by simpa [Value.cells] using hn) hl (by omega) (by simpa [Value.cells] using h1)
  rw [this]
  have e : splice cs 0 ns = ns := by
    unfold splice
    rw [List.drop_eq_nil_of_le (by omega)]; simp
  show some (H.put b (some ⟨splice cs 0 (Value.agg ns.toArray).cells.toList, es⟩)) = _
  rw [show (Value.agg ns.toArray).cells.toList = ns from rfl, e]; rfl
/-- A store of a field into a block of a struct. -/
theorem boxF_store {H : AH} {b o : Nat} {es : Nat} {cs : List Value} {x : Value} (h : H.get b = some ⟨cs, es⟩) (hl : H.lo ≤ b) (ho : o < cs.length) (hx : x.cells = #[x]) (h1 : x.oneCell' = true) :
    opStore 1 (.pointer (some ⟨b, o, none⟩)) x H = some (putB H b ⟨cs.set o x, es⟩) := by
  have := store_at (o := o) (n := 1) (x := x) h (by rw [hx]; rfl) hl (by omega) (by rw [hx]; simp [h1])
  rw [this, hx]
  congr 3
  simp only [splice]
  rw [List.set_eq_take_append_cons_drop, if_pos ho]; simp

theorem boxS_store {H : AH} {b o : Nat} {es : Nat} {cs ns : List Value} (h : H.get b = some ⟨cs, es⟩) (hl : H.lo ≤ b) (ho : o + ns.length ≤ cs.length) (h1 : ns.all Value.oneCell' = true) :
    opStore ns.length (.pointer (some ⟨b, o, none⟩)) (.agg ns.toArray) H = some (putB H b ⟨splice cs o ns, es⟩) := by
  have := store_at (o := o) (n := ns.length) (x := .agg ns.toArray) h (by simp [Value.cells]) hl ho (by simpa [Value.cells] using h1)
  rw [this]; rfl
/-- An append to an own slice among others. -/
theorem Sep.append {α : Type} {f : α → Value} {n0 : Nat} {H : AH} {rs : List Rs} {v x : Value} {l m : List α} {bytes : Nat} (h : Sep n0 H rs) (i : Nat) (hi : rs[i]? = some (Rs.own f v l)) (hl : H.lo ≤ n0) (hx : Sl f H x m) (h1 : ∀ a, (f a).oneCell' = true)
    (hb : l.length + m.length ≤ 1099511627776 ∧ bytes ≤ 64) (hs : n0 ≤ H.size) :
    ∃ v' H', opAppend 1 bytes v x H = some (v', H') ∧ Sep n0 H' (rs.set i (Rs.own f v' (l ++ m))) ∧ KpX (blkOf v) H H' ∧ (∀ b, blkOf v = some b → n0 ≤ b) ∧ Sl f H' v' (l ++ m) := by
  have hmem := List.mem_of_getElem? hi
  obtain ⟨v', H', e, hO, hX, hbk⟩ := append_sl (bytes := bytes) ⟨h.ok _ hmem, h.ge _ hmem⟩ hl hx h1 hb hs
  exact ⟨v', H', e, h.upd i hi hX hO.1 hbk hs, hX, h.ge _ hmem, hO.1⟩
/-- An append of one element that lies in a new block. -/
theorem Sep.append1 {α : Type} {f : α → Value} {n0 : Nat} {H : AH} {rs : List Rs} {v : Value} {l : List α} {a : α} {bytes : Nat} (h : Sep n0 H rs) (i : Nat) (hi : rs[i]? = some (Rs.own f v l)) (hl : H.lo ≤ n0) (h1 : ∀ a, (f a).oneCell' = true)
    (hb : l.length + 1 ≤ 1099511627776 ∧ bytes ≤ 64) (hs : n0 ≤ H.size) :
    ∃ v' H', opAppend 1 bytes v (.slice (some ⟨H.size, 0, none⟩) 1 1) (H.alloc ⟨[f a], 1⟩) = some (v', H') ∧ Sep n0 H' (rs.set i (Rs.own f v' (l ++ [a]))) ∧ KpX (blkOf v) H H' ∧ (∀ b, blkOf v = some b → n0 ≤ b) ∧ Sl f H' v' (l ++ [a]) := by
  have hmem := List.mem_of_getElem? hi
  obtain ⟨v', H', e, hO, hX, hbk⟩ := append_1 (bytes := bytes) (a := a) ⟨h.ok _ hmem, h.ge _ hmem⟩ hl h1 hb hs
  exact ⟨v', H', e, h.upd i hi hX hO.1 hbk hs, hX, h.ge _ hmem, hO.1⟩

/-! ### the order of a region -/

theorem kp_same {A B : AH} {k : Nat} (h : Kp A B) (hk : k < A.size) : B.get k = A.get k := h.2.2 k hk
theorem ge_same {A B : AH} {k : Nat} (h1 : A.size ≤ k) (h2 : B.size ≤ k) : B.get k = A.get k := by rw [get_ge h1, get_ge h2]
theorem ADr_fin {E : Env} {l0 : List MO} {ps : List (Nat × Nat)} {acc : List (T × AH)} {t : T} {H : AH} {Q : Post} (h : ∀ p ∈ ps, ckPair l0 ((t, H) :: acc).reverse p) (hq : Q .normal t H) : ADr E l0 ps [] acc t H Q := ADr_nil h hq
/-- A load, and a step that leaves its block. -/
theorem ck_load {l : List MO} {tr : List (T × AH)} {p : Nat × Nat} {d : Option Nat} {g : Option Nat} {a : Operand} {gd : Option (Nat × Bool)} {s A B : T × AH} {b o : Nat}
    (h1 : l[p.1]? = some ⟨d, .load g a, gd⟩) (h2 : tr[p.1]? = some s) (h3 : tr[p.2]? = some A) (h4 : tr[p.2 + 1]? = some B) (ha : ev s.1 a = .pointer (some ⟨b, o, none⟩)) (h : B.2.get b = A.2.get b) : ckPair l tr p :=
  ckPair_of h1 h2 h3 h4 fun k hk => by simp only [readsBlk, ha, Option.some.injEq] at hk; subst hk; exact h
/-- What an operation makes, and a step that knows nothing of it. -/
theorem ck_new {l : List MO} {tr : List (T × AH)} {p : Nat × Nat} {o : MO} {s A B : T × AH}
    (h1 : l[p.1]? = some o) (h2 : tr[p.1]? = some s) (h3 : tr[p.2]? = some A) (h4 : tr[p.2 + 1]? = some B) (ho : readsBlk o.op (ev s.1) s.2 = some s.2.size) (h : B.2.get s.2.size = A.2.get s.2.size) : ckPair l tr p :=
  ckPair_of h1 h2 h3 h4 fun k hk => by rw [ho] at hk; cases hk; exact h
/-- A step that leaves the heap. -/
theorem ck_pure {l : List MO} {tr : List (T × AH)} {p : Nat × Nat} {o : MO} {s A B : T × AH}
    (h1 : l[p.1]? = some o) (h2 : tr[p.1]? = some s) (h3 : tr[p.2]? = some A) (h4 : tr[p.2 + 1]? = some B) (h : B.2 = A.2) : ckPair l tr p :=
  ckPair_of h1 h2 h3 h4 fun k _ => by rw [h]
/-- A slicing or a text of bytes, and a step that leaves its block. -/
theorem ck_slice {l : List MO} {tr : List (T × AH)} {p : Nat × Nat} {o : MO} {s A B : T × AH} {v : Value}
    (h1 : l[p.1]? = some o) (h2 : tr[p.1]? = some s) (h3 : tr[p.2]? = some A) (h4 : tr[p.2 + 1]? = some B)
    (ho : ∀ k, readsBlk o.op (ev s.1) s.2 = some k → blkOf v = some k) (h : ∀ b, blkOf v = some b → B.2.get b = A.2.get b) : ckPair l tr p :=
  ckPair_of h1 h2 h3 h4 fun k hk => h k (ho k hk)
theorem reads_b2s {d : Option Nat} {x : Operand} {gd : Option (Nat × Bool)} {e : Operand → Value} {H : AH} {k : Nat} {v : Value} (hv : e x = v) (h : readsBlk (MO.mk d (.bytesToStr x) gd).op e H = some k) : blkOf v = some k := by
  simp only [readsBlk, hv] at h
  cases v with
  | slice a n c => cases a with
    | none => cases h
    | some p => exact h
  | _ => cases h

theorem ck_b2s (v : Value) {l : List MO} {tr : List (T × AH)} {p : Nat × Nat} {d : Option Nat} {x : Operand} {gd : Option (Nat × Bool)} {s A B : T × AH}
    (h1 : l[p.1]? = some ⟨d, .bytesToStr x, gd⟩) (h2 : tr[p.1]? = some s) (h3 : tr[p.2]? = some A) (h4 : tr[p.2 + 1]? = some B) (hv : ev s.1 x = v) (h : ∀ b, blkOf v = some b → B.2.get b = A.2.get b) : ckPair l tr p :=
  ck_slice h1 h2 h3 h4 (fun k hk => reads_b2s (d := d) (gd := gd) hv hk) h
theorem reads_sl {d : Option Nat} {es : Nat} {x : Operand} {lo hi : Option Operand} {gd : Option (Nat × Bool)} {e : Operand → Value} {H : AH} {k : Nat} {v : Value} (hv : e x = v) (h : readsBlk (MO.mk d (.sliceSl es x lo hi) gd).op e H = some k) : blkOf v = some k := by
  simp only [readsBlk, hv] at h
  cases v with
  | slice a n c => cases a with
    | none => cases h
    | some p => exact h
  | _ => cases h
theorem ck_slSl (v : Value) {l : List MO} {tr : List (T × AH)} {p : Nat × Nat} {d : Option Nat} {es : Nat} {x : Operand} {lo hi : Option Operand} {gd : Option (Nat × Bool)} {s A B : T × AH}
    (h1 : l[p.1]? = some ⟨d, .sliceSl es x lo hi, gd⟩) (h2 : tr[p.1]? = some s) (h3 : tr[p.2]? = some A) (h4 : tr[p.2 + 1]? = some B) (hv : ev s.1 x = v) (h : ∀ b, blkOf v = some b → B.2.get b = A.2.get b) : ckPair l tr p :=
  ck_slice h1 h2 h3 h4 (fun k hk => reads_sl (d := d) (gd := gd) hv hk) h

/-! ### bytes -/

theorem bytesOf_map {l : Str} : bytesOf (l.map bv) = some l := by
  induction l with
  | nil => rfl
  | cons a l ih =>
    simp only [List.map_cons, bv, bytesOf]
    rw [ih]
    simp
theorem Sl.b2s {H : AH} {v : Value} {l : Str} (h : Sl bv H v l) : opBytesToStr v H = some (sv l) := by
  obtain ⟨h0, ⟨rfl, hl⟩ | ⟨b, o, c, blk, rfl, h2, h3, h4, h5, h6⟩⟩ := h
  · have : l = [] := List.length_eq_zero_iff.mp hl
    subst this; rfl
  · simp only [opBytesToStr, AH.readN, h3]
    rw [Nat.mul_one] at h5 h6
    rw [if_pos (by omega), h6]
    simp only [bytesOf_map]; rfl
theorem build221 {z0 z1 z2 z3 z4 a b c d e : Value} (he : e.cells = #[e]) : opBuild #[z0, z1, z2, z3, z4] #[(0, 2), (2, 2), (4, 1)] [(0, .agg #[a, b]), (1, .agg #[c, d]), (2, e)] = some (.agg #[a, b, c, d, e]) := by
  have h1 : (Value.agg #[a, b]).cells = #[a, b] := rfl
  have h2 : (Value.agg #[c, d]).cells = #[c, d] := rfl
  simp [opBuild, Instr.fill, h1, h2, he]
theorem range_getD {α : Type} [Inhabited α] {l : List α} : ((List.range l.length).map fun i => l.getD i default) = l := by
  apply List.ext_getElem
  · simp
  · intro i h1 h2
    simp only [List.getElem_map, List.getElem_range, List.getD, List.getElem?_eq_getElem h2, Option.getD_some]
theorem range_map_getD {α β : Type} [Inhabited α] {l : List α} {f : α → β} : ((List.range l.length).map fun i => f (l.getD i default)) = l.map f := by
  have e : (fun i => f (l.getD i default)) = f ∘ fun i => l.getD i default := rfl
  rw [e, ← List.map_map, range_getD]
end Go.AE
set_option linter.unusedVariables false
namespace Go.AE
open Go.RowKit (Below)

/-- A slice that came in: its cells, up to its capacity. -/
structure ArgS where
  a : Option Addr
  len : Nat
  cap : Nat
  cells : List Value

def ArgS.val (s : ArgS) : Value := .slice s.a s.len s.cap
def ArgS.abs (i : Nat) (s : ArgS) : Value := match s.a with | none => .slice none 0 0 | some _ => .slice (some ⟨i, 0, none⟩) s.len s.cap

structure ArgS.Ok (W : World) (s : ArgS) : Prop where
  nil : s.a = none → s.len = 0 ∧ s.cap = 0
  le : s.len ≤ s.cap
  size : s.cells.length = s.cap
  cell : ∀ x, s.a = some x → ∀ i (h : i < s.cells.length), W.cell? (x.add i) = some s.cells[i]
  plain : ∀ v ∈ s.cells, ∀ ι, VR ι v v

def argH (ss : List ArgS) : AH := ⟨ss.map fun s => some ⟨s.cells, 1⟩, ss.length⟩
def argI (ss : List ArgS) : Inj := fun i => match ss[i]? with
  | some s => (match s.a with | some x => if s.cap = 0 then none else some ⟨x.block, x.off, s.cap, 1⟩ | none => none)
  | none => none

theorem argI_some {ss : List ArgS} {i : Nat} {L : Loc} (h : argI ss i = some L) : ∃ s x, ss[i]? = some s ∧ s.a = some x ∧ 0 < s.cap ∧ L = ⟨x.block, x.off, s.cap, 1⟩ := by
  unfold argI at h
  split at h
  · rename_i s hs
    split at h
    · rename_i x hx
      split at h
      · cases h
      · rename_i hc
        cases h
        exact ⟨s, x, hs, hx, by omega, rfl⟩
    · cases h
  · cases h
theorem argH_size {ss : List ArgS} : (argH ss).size = ss.length := by simp [argH, AH.size]
theorem argH_get {ss : List ArgS} {i : Nat} {s : ArgS} (h : ss[i]? = some s) : (argH ss).get i = some ⟨s.cells, 1⟩ := by
  simp [argH, AH.get, h]

/-- A cell that is read lies in a block of cells. -/
theorem cell_lies {W : World} {x : Addr} {v : Value} (h : W.cell? x = some v) : x.spot = none ∧ ∃ cs t fr, W.heap[x.block]? = some (.cells cs t fr) ∧ cs[x.off]? = some v := by
  unfold World.cell? at h
  split at h
  · rename_i c t fr hc
    split at h
    · cases h
    · rename_i hsp
      refine ⟨?_, c, t, fr, hc, h⟩
      cases hs : x.spot with
      | none => rfl
      | some y => simp [hs] at hsp
  · cases h

theorem args_lie {W : World} {s : ArgS} (h : s.Ok W) {x : Addr} (hx : s.a = some x) (hc : 0 < s.cap) :
    x.spot = none ∧ ∃ cs t fr, W.heap[x.block]? = some (.cells cs t fr) ∧ x.off + s.cap ≤ cs.size ∧ ∀ j (hj : j < s.cells.length), cs[x.off + j]? = some s.cells[j] := by
  have hsz := h.size
  have h0 := h.cell x hx 0 (by omega)
  have e0 : x.add 0 = x := rfl
  rw [e0] at h0
  obtain ⟨hs, cs, t, fr, hh, _⟩ := cell_lies h0
  have hall : ∀ j (hj : j < s.cells.length), cs[x.off + j]? = some s.cells[j] := by
    intro j hj
    have h1 := h.cell x hx j hj
    obtain ⟨_, cs', t', fr', hh', hc'⟩ := cell_lies h1
    have eb : (x.add j).block = x.block := by unfold Addr.add; split <;> rfl
    have eo : (x.add j).off = x.off + j := by unfold Addr.add; split <;> simp_all
    rw [eb, hh] at hh'
    cases hh'
    rw [eo] at hc'
    exact hc'
  refine ⟨hs, cs, t, fr, hh, ?_, hall⟩
  have := hall (s.cap - 1) (by omega)
  have := (Array.getElem?_eq_some_iff.mp this).1
  omega

theorem arg_sim {W : World} {ss : List ArgS} (h : ∀ s ∈ ss, s.Ok W) : Sim ⟨ss.length, W.heap.size, W⟩ (argI ss) (argH ss) W := by
  refine ⟨Below.refl _ _, Nat.le_refl _, Nat.le_refl _, ?_, ?_, ?_, ?_, ?_, ?_, Nat.le_refl _⟩
  · rw [argH_size]; exact Nat.le_refl _
  · intro i L blk hL hB
    obtain ⟨s, x, hs, hx, hc, rfl⟩ := argI_some hL
    have hmem := List.mem_of_getElem? hs
    rw [argH_get hs] at hB
    cases hB
    obtain ⟨_, cs, t, fr, hh, hb, hall⟩ := args_lie (h s hmem) hx hc
    have hlt := (List.getElem?_eq_some_iff.mp hs).1
    refine ⟨cs, t, fr, hh, fun (ho : ss.length ≤ i) => absurd ho (by omega), hb, Nat.le_of_eq (h s hmem).size, rfl, fun j hj => ⟨_, hall j hj, (h s hmem).plain _ (List.getElem_mem hj) _⟩⟩
  · intro i L hL (hi : ss.length ≤ i)
    obtain ⟨s, x, hs, _⟩ := argI_some hL
    have hlt := (List.getElem?_eq_some_iff.mp hs).1
    omega
  · intro i L hL _
    obtain ⟨s, x, hs, hx, hc, rfl⟩ := argI_some hL
    obtain ⟨_, cs, t, fr, hh, _⟩ := args_lie (h s (List.mem_of_getElem? hs)) hx hc
    exact (Array.getElem?_eq_some_iff.mp hh).1
  · intro i L hL
    obtain ⟨s, x, hs, hx, hc, rfl⟩ := argI_some hL
    obtain ⟨_, cs, t, fr, hh, _⟩ := args_lie (h s (List.mem_of_getElem? hs)) hx hc
    exact (Array.getElem?_eq_some_iff.mp hh).1
  · intro i j L M hL hM (hi : ss.length ≤ i)
    obtain ⟨s, x, hs, _⟩ := argI_some hL
    have hlt := (List.getElem?_eq_some_iff.mp hs).1
    omega

theorem arg_vr {W : World} {ss : List ArgS} (h : ∀ s ∈ ss, s.Ok W) {i : Nat} {s : ArgS} (hs : ss[i]? = some s) : VR (argI ss) (s.abs i) s.val := by
  have hok := h s (List.mem_of_getElem? hs)
  unfold ArgS.abs ArgS.val
  cases hx : s.a with
  | none =>
    obtain ⟨h1, h2⟩ := hok.nil hx
    rw [h1, h2]; exact .sliceNil
  | some x =>
    have hle := hok.le
    by_cases hc : s.cap = 0
    · have hl : s.len = 0 := by omega
      rw [hc, hl]; exact .sliceE _ _
    · have hI : argI ss i = some ⟨x.block, x.off, s.cap, 1⟩ := by
        unfold argI; simp only [hs, hx, if_neg hc]
      obtain ⟨hsp, _⟩ := args_lie hok hx (by omega)
      have e : (x : Addr) = ⟨x.block, x.off + 0, none⟩ := by
        cases x; simp_all
      simp only
      rw [e]
      exact VR.slice 0 s.len hI (Nat.le_refl _) (by simp)

/-- What the evaluator computes, the call does. -/
theorem calls_of {P : Program} {X : Nat → Option Ext} (hm : P.follows .mixedOrders = true) (hX : XOk P X) {f : Nat} {args args' : List Value} {ss : List ArgS} {W : World} {v : Value}
    (hss : ∀ s ∈ ss, s.Ok W) (ha : VRL (argI ss) args args') (he : (callFunc f args'.toArray).run P W = .ok (.enter f args'.toArray) W)
    (h : ACalls ⟨P, X⟩ f args (argH ss) (fun v' _ => v' = v)) :
    Calls P f args'.toArray W fun e W' => ∃ v' ι, e = .returned v' ∧ VR ι v v' ∧ Below W.heap.size W W' := by
  obtain ⟨k, v1, H', h1, rfl⟩ := h
  have hs := (callK_ok hm hX k).1 f args (argH ss) v1 H' h1 ⟨ss.length, W.heap.size, W⟩ (argI ss) W args' H'.size ha (arg_sim hss)
    (fun i hi _ => by
      rw [argH_size] at hi
      unfold argI; rw [List.getElem?_eq_none hi]) (Nat.le_refl _)
  rcases hs with ⟨_, hc⟩ | ⟨v', w', hr, _⟩
  · refine hc.mono ?_
    rintro e w' ⟨v', rfl, ι', hv, st⟩
    exact ⟨v', ι', rfl, hv, st.sim.below⟩
  · rw [he] at hr; cases hr

theorem calls_true {P : Program} {X : Nat → Option Ext} (hm : P.follows .mixedOrders = true) (hX : XOk P X) {f : Nat} {args args' : List Value} {ss : List ArgS} {W : World}
    (hss : ∀ s ∈ ss, s.Ok W) (ha : VRL (argI ss) args args') (he : (callFunc f args'.toArray).run P W = .ok (.enter f args'.toArray) W)
    (h : ACalls ⟨P, X⟩ f args (argH ss) (fun v' _ => v' = .bool true)) :
    Calls P f args'.toArray W fun e W' => e = .returned (.bool true) ∧ Below W.heap.size W W' := by
  refine (calls_of hm hX hss ha he h).mono ?_
  rintro e w' ⟨v', ι, rfl, hv, hb⟩
  cases hv
  exact ⟨rfl, hb⟩
end Go.AE
set_option linter.unusedVariables false
namespace Go.AE
open Go.ChangeShapes Go.WideShapes Go.ChangeAt Go.RowKit

section
variable {H : Type} {enc : TypeId × Value → H} {P : Program} {W : World}

theorem open_numbers {t e : TypeId} {k : IntKind} {held : Bool} {fuel : Nat} {cs : List Value} {x : DataW H × List MemPlace} (ht : P.underlying t = some (.slice e)) (he : P.underlying e = some (.int k)) (hc : P.cellsOf e = 1)
    (h : DataW.trod enc P W 0 (fun _ => true) held fuel t cs = some x) : ∃ (s : ArgS) (l : List Int), cs = [s.val] ∧ s.Ok W ∧ s.cells = l.map (Value.int k) ∧ s.len ≤ 9223372036854775807 ∧ ∀ n ∈ l, (Lit.int k n).wf = true := by
  rcases open_ints ht he hc h with ⟨hcs, _⟩ | ⟨a, len, cap, zs, hcs, _, hl, hm, hz, _, hcell, hwf⟩
  · refine ⟨⟨none, 0, 0, []⟩, [], hcs, ⟨fun _ => ⟨rfl, rfl⟩, Nat.le_refl _, rfl, (fun x hx => by cases hx), (fun v hv => by cases hv)⟩, rfl, by simp, by simp⟩
  · have hz' : zs.length = cap := by simpa using hz
    refine ⟨⟨some a, len, cap, zs.map (Value.int k)⟩, zs, hcs, ⟨(fun h => by cases h), hl, by simpa using hz', fun x hx i hi => ?_, fun v hv ι => ?_⟩, rfl, Nat.le_trans hl (by simpa [maxLen] using hm), hwf⟩
    · cases hx
      have hi' : i < zs.length := by simpa using hi
      rw [hcell i hi']
      simp [List.getD, List.getElem?_eq_getElem hi']
    · obtain ⟨n, _, rfl⟩ := List.mem_map.mp hv
      exact .int _ _

theorem arg_sl {α : Type} {f : α → Value} {ss : List ArgS} {i : Nat} {s : ArgS} {l : List α} (hs : ss[i]? = some s) (ho : s.Ok W) (hc : s.cells = l.map f) : Sl f (argH ss) (s.abs i) (l.take s.len) := by
  have hle := ho.le
  have hsz := ho.size
  have hll : l.length = s.cap := by rw [← hsz, hc, List.length_map]
  have hlen : (l.take s.len).length = s.len := by rw [List.length_take]; omega
  refine ⟨by simp, ?_⟩
  unfold ArgS.abs
  cases ha : s.a with
  | none =>
    obtain ⟨h1, h2⟩ := ho.nil ha
    exact .inl ⟨rfl, by rw [hlen, h1]⟩
  | some a =>
    refine .inr ⟨i, 0, s.cap, ⟨s.cells, 1⟩, by rw [hlen], by rw [hlen]; exact hle, argH_get hs, rfl, by simp [hsz], ?_⟩
    rw [List.drop_zero, Nat.mul_one, hlen, hc, List.map_take]

theorem open_bits {tB tI tS : TypeId} {held : Bool} {fuel : Nat} {cs : List Value} {x : DataW H × List MemPlace} {n0 n1 : String} {f0 f1 : Field} (hB : P.underlying tB = some (.struct #[f0, f1])) (hf0 : f0.type = tI ∧ f0.offset = 0) (hf1 : f1.type = tS ∧ f1.offset = 1)
    (cB : P.cellsOf tB = 2) (cI : P.cellsOf tI = 1) (cS : P.cellsOf tS = 1) (uI : P.underlying tI = some (.int .i64)) (uS : P.underlying tS = some (.slice tI)) (h : DataW.trod enc P W 0 (fun _ => true) held fuel tB cs = some x) :
    ∃ (n : Int) (s : ArgS) (l : List Int), cs = [.int .i64 n, s.val] ∧ s.Ok W ∧ s.cells = l.map (Value.int .i64) ∧ s.len ≤ 9223372036854775807 := by
  obtain ⟨y0, y1, m, _, hl, h0, h1⟩ := trod_struct2 hB h
  rw [hf0.1, hf0.2, cI] at h0
  rw [hf1.1, hf1.2, cS] at h1
  obtain ⟨n, e0, _, _⟩ := DataW.trod_int uI h0
  obtain ⟨s, l, e1, hs, hc, hlen, _⟩ := open_numbers uS uI cI h1
  refine ⟨n, s, l, ?_, hs, hc, hlen⟩
  rw [cB] at hl
  match cs, hl with
  | [a, b], _ =>
    simp at e0 e1
    rw [e0, e1]

theorem open_trie {tT tB tI tS tX : TypeId} {d : DataW H} {ps : List MemPlace} {r : Reach} {b0 : Nat} {v : Value} {f0 f1 f2 g0 g1 : Field} (hT : P.underlying tT = some (.struct #[f0, f1, f2])) (hB : P.underlying tB = some (.struct #[g0, g1]))
    (e0 : f0.type = tB ∧ f0.offset = 0) (e1 : f1.type = tB ∧ f1.offset = 2) (e2 : f2.type = tX ∧ f2.offset = 4) (k0 : g0.type = tI ∧ g0.offset = 0) (k1 : g1.type = tS ∧ g1.offset = 1)
    (cT : P.cellsOf tT = 5) (cB : P.cellsOf tB = 2) (cI : P.cellsOf tI = 1) (cS : P.cellsOf tS = 1) (cX : P.cellsOf tX = 1) (uI : P.underlying tI = some (.int .i64)) (uS : P.underlying tS = some (.slice tI)) (uX : P.underlying tX = some .string)
    (hv : Value.okWide P W r b0 tT v) (h : DataW.Trod enc P W 0 (fun _ => true) true tT v d ps) :
    ∃ (n m : Int) (s1 s2 : ArgS) (l1 l2 : List Int) (lb : ByteArray), v = .agg #[.int .i64 n, s1.val, .int .i64 m, s2.val, .string lb] ∧ s1.Ok W ∧ s2.Ok W ∧ s1.cells = l1.map (Value.int .i64) ∧ s2.cells = l2.map (Value.int .i64) ∧
      s1.len ≤ 9223372036854775807 ∧ s2.len ≤ 9223372036854775807 ∧ lb.size ≤ 9223372036854775807 := by
  obtain ⟨cs, rfl, hcs⟩ := okWide_struct hT hv
  obtain ⟨fuel, hf⟩ := h
  obtain ⟨y0, y1, y2, q, _, hl, h0, h1, h2⟩ := Go.Deep.trod_struct3 hT hf
  rw [e0.1, e0.2, cB] at h0
  rw [e1.1, e1.2, cB] at h1
  rw [e2.1, e2.2, cX] at h2
  obtain ⟨n, s1, l1, a1, b1, c1, d1⟩ := open_bits (n0 := "") (n1 := "") hB k0 k1 cB cI cS uI uS h0
  obtain ⟨m, s2, l2, a2, b2, c2, d2⟩ := open_bits (n0 := "") (n1 := "") hB k0 k1 cB cI cS uI uS h1
  obtain ⟨lb, a3, _, d3⟩ := DataW.trod_string uX h2
  refine ⟨n, m, s1, s2, l1, l2, lb, ?_, b1, b2, c1, c2, d1, d2, by simpa [maxLen] using d3⟩
  congr 1
  rw [cT] at hl
  have hl' : cs.toList.length = 5 := hl
  have hc : (Value.agg cs).cells.toList = cs.toList := rfl
  rw [hc] at a1 a2 a3
  apply Array.toList_inj.mp
  generalize cs.toList = L at *
  match L, hl' with
  | [a, b, c, d, e], _ =>
    simp at a1 a2 a3
    rw [a1.1, a1.2, a2.1, a2.2, a3]
end
end Go.AE
