/- The rules of codes, calls and operations. -/
import Derived.Test.YtmdfejlfdgaomaaAM28
namespace Go.Proofs.YtmdfejlfdgaomaaAM
open Go Go.RowKit
set_option linter.unusedVariables false
set_option linter.unusedSimpArgs false

def onNormal (e : ExitA) (p q : Prop) (_ : Tag p q := .mk) : Prop := match e with
  | .normal => p
  | _ => q
def onExit (id : Nat) (e : ExitA) (p q : Prop) (_ : Tag p q := .mk) : Prop := match e with
  | .exit i => if i = id then p else q
  | _ => q
theorem onNormal_normal (p q : Prop) : onNormal .normal p q = p := hide rfl
theorem onNormal_exit (i : Nat) (p q : Prop) : onNormal (.exit i) p q = q := hide rfl
theorem onNormal_ret (p q : Prop) : onNormal .ret p q = q := hide rfl
theorem onExit_normal (i : Nat) (p q : Prop) : onExit i .normal p q = q := hide rfl
theorem onExit_ret (i : Nat) (p q : Prop) : onExit i .ret p q = q := hide rfl
theorem onExit_self (i : Nat) (p q : Prop) : onExit i (.exit i) p q = p := by simp [onExit]
theorem onExit_other {i j : Nat} (h : (j == i) = false) (p q : Prop) : onExit i (.exit j) p q = q := by
  have : j ≠ i := by simpa using h
  simp [onExit, this]
section
variable {E : Program} {G : Gives} {fn : FuncId} {ro : Option Nat} {t : List Value} {ds : List Nat} {a : AW} {Q : ExitA → List Value → List Nat → AW → Prop}
theorem code_skip : WCode E G fn ro .skip t ds a Q = Q .normal t ds a := by
  refine propext ⟨?_, fun h => ⟨1, _, _, _, _, by simp [codeA], h⟩⟩
  rintro ⟨n, e, t', ds', b, h, hq⟩
  cases n with
  | zero => simp [codeA] at h
  | succ n => simp only [codeA, Option.some.injEq, Prod.mk.injEq] at h; obtain ⟨rfl, rfl, rfl, rfl⟩ := h; exact hq
theorem code_label {l} : WCode E G fn ro (.label l) t ds a Q = Q .normal t ds a := by
  refine propext ⟨?_, fun h => ⟨1, _, _, _, _, by simp [codeA], h⟩⟩
  rintro ⟨n, e, t', ds', b, h, hq⟩
  cases n with
  | zero => simp [codeA] at h
  | succ n => simp only [codeA, Option.some.injEq, Prod.mk.injEq] at h; obtain ⟨rfl, rfl, rfl, rfl⟩ := h; exact hq
theorem code_exit {i} : WCode E G fn ro (.exit i) t ds a Q = Q (.exit i) t ds a := by
  refine propext ⟨?_, fun h => ⟨1, _, _, _, _, by simp [codeA], h⟩⟩
  rintro ⟨n, e, t', ds', b, h, hq⟩
  cases n with
  | zero => simp [codeA] at h
  | succ n => simp only [codeA, Option.some.injEq, Prod.mk.injEq] at h; obtain ⟨rfl, rfl, rfl, rfl⟩ := h; exact hq
theorem code_ret : WCode E G fn ro .ret t ds a Q = Q .ret t ds a := by
  refine propext ⟨?_, fun h => ⟨1, _, _, _, _, by simp [codeA], h⟩⟩
  rintro ⟨n, e, t', ds', b, h, hq⟩
  cases n with
  | zero => simp [codeA] at h
  | succ n => simp only [codeA, Option.some.injEq, Prod.mk.injEq] at h; obtain ⟨rfl, rfl, rfl, rfl⟩ := h; exact hq
theorem code_seq {x y : Code} : WCode E G fn ro (.seq x y) t ds a Q = WCode E G fn ro x t ds a fun e t ds a => onNormal e (WCode E G fn ro y t ds a Q) (Q e t ds a) := by
  refine propext ⟨?_, ?_⟩
  · rintro ⟨n, e, t', ds', b, h, hq⟩
    cases n with
    | zero => simp [codeA] at h
    | succ n =>
      rw [codeA] at h
      try simp only at h
      cases hx : codeA E G n fn ro x t ds a with
      | none => rw [hx] at h; cases h
      | some r =>
        obtain ⟨e1, t1, ds1, a1⟩ := r
        rw [hx] at h
        refine ⟨n, _, _, _, _, hx, ?_⟩
        cases e1 with
        | normal => exact ⟨n, _, _, _, _, h, hq⟩
        | _ => cases h; exact hq
  · rintro ⟨n, e, t', ds', b, h, hq⟩
    cases e with
    | normal =>
      obtain ⟨m, e2, t2, ds2, b2, h2, hq⟩ := hq
      refine ⟨max n m + 1, e2, t2, ds2, b2, ?_, hq⟩
      rw [codeA]
      try simp only
      rw [code_mono (Nat.le_max_left n m) h]
      exact code_mono (Nat.le_max_right n m) h2
    | _ =>
      refine ⟨n + 1, _, _, _, _, ?_, hq⟩
      rw [codeA]
      try simp only
      rw [h]
theorem code_cond {c : Operand} {x y : Code} : WCode E G fn ro (.cond c x y) t ds a Q = WIf (evalA t c) (WCode E G fn ro x t ds a Q) (WCode E G fn ro y t ds a Q) := by
  refine propext ⟨?_, ?_⟩
  · rintro ⟨n, e, t', ds', b, h, hq⟩
    cases n with
    | zero => simp [codeA] at h
    | succ n =>
      rw [codeA] at h
      try simp only at h
      unfold WIf
      split at h
      · rename_i hc; rw [hc]; exact ⟨n, _, _, _, _, h, hq⟩
      · rename_i hc; rw [hc]; exact ⟨n, _, _, _, _, h, hq⟩
      · cases h
  · intro h
    unfold WIf at h
    split at h
    · rename_i hc
      obtain ⟨n, e, t', ds', b, h, hq⟩ := h
      exact ⟨n + 1, _, _, _, _, by rw [codeA]; simp only [hc]; exact h, hq⟩
    · rename_i hc
      obtain ⟨n, e, t', ds', b, h, hq⟩ := h
      exact ⟨n + 1, _, _, _, _, by rw [codeA]; simp only [hc]; exact h, hq⟩
    · exact h.elim
theorem code_block {id : Nat} {c : Code} : WCode E G fn ro (.block id c) t ds a Q = WCode E G fn ro c t ds a fun e t ds a => onExit id e (Q .normal t ds a) (Q e t ds a) := by
  refine propext ⟨?_, ?_⟩
  · rintro ⟨n, e, t', ds', b, h, hq⟩
    cases n with
    | zero => simp [codeA] at h
    | succ n =>
      rw [codeA] at h
      try simp only at h
      cases hx : codeA E G n fn ro c t ds a with
      | none => rw [hx] at h; cases h
      | some r =>
        obtain ⟨e1, t1, ds1, a1⟩ := r
        rw [hx] at h
        refine ⟨n, _, _, _, _, hx, ?_⟩
        cases e1 with
        | exit i =>
          try simp only at h
          unfold onExit
          try simp only
          split at h
          · rename_i hi; rw [if_pos hi]; cases h; exact hq
          · rename_i hi; rw [if_neg hi]; cases h; exact hq
        | _ => cases h; exact hq
  · rintro ⟨n, e, t', ds', b, h, hq⟩
    cases e with
    | exit i =>
      unfold onExit at hq
      simp only at hq
      by_cases hi : i = id
      · rw [if_pos hi] at hq
        exact ⟨n + 1, _, _, _, _, by rw [codeA]; (try simp only); rw [h]; (try simp only); rw [if_pos hi], hq⟩
      · rw [if_neg hi] at hq
        exact ⟨n + 1, _, _, _, _, by rw [codeA]; (try simp only); rw [h]; (try simp only); rw [if_neg hi], hq⟩
    | _ =>
      refine ⟨n + 1, _, _, _, _, ?_, hq⟩
      rw [codeA]
      try simp only
      rw [h]
theorem code_loop {c : Code} : WCode E G fn ro (.loop c) t ds a Q = WCode E G fn ro c t ds a fun e t ds a => onNormal e (WCode E G fn ro (.loop c) t ds a Q) (Q e t ds a) := by
  refine propext ⟨?_, ?_⟩
  · rintro ⟨n, e, t', ds', b, h, hq⟩
    cases n with
    | zero => simp [codeA] at h
    | succ n =>
      rw [codeA] at h
      try simp only at h
      cases hx : codeA E G n fn ro c t ds a with
      | none => rw [hx] at h; cases h
      | some r =>
        obtain ⟨e1, t1, ds1, a1⟩ := r
        rw [hx] at h
        refine ⟨n, _, _, _, _, hx, ?_⟩
        cases e1 with
        | normal => exact ⟨n, _, _, _, _, h, hq⟩
        | _ => cases h; exact hq
  · rintro ⟨n, e, t', ds', b, h, hq⟩
    cases e with
    | normal =>
      obtain ⟨m, e2, t2, ds2, b2, h2, hq⟩ := hq
      refine ⟨max n m + 1, e2, t2, ds2, b2, ?_, hq⟩
      rw [codeA]
      try simp only
      rw [code_mono (Nat.le_max_left n m) h]
      exact code_mono (Nat.le_max_right n m) h2
    | _ =>
      refine ⟨n + 1, _, _, _, _, ?_, hq⟩
      rw [codeA]
      try simp only
      rw [h]
theorem code_region {id : Nat} {l : List Oper} : WCode E G fn ro (.region id l.toArray false) t ds a Q = WL E G (dstsOf l) l t a fun t a => Q .normal t ds a := by
  have := @wops_all E G fn ro l.toArray t a (fun t a => Q .normal t ds a)
  simp only at this
  rw [← this]
  refine propext ⟨?_, ?_⟩
  · rintro ⟨n, e, t', ds', b, h, hq⟩
    cases n with
    | zero => simp [codeA] at h
    | succ n =>
      rw [codeA] at h
      try simp only at h
      cases hx : opsA E G n fn ro l.toArray (List.range l.toArray.size) t a with
      | none => rw [hx] at h; cases h
      | some r =>
        obtain ⟨t1, a1⟩ := r
        rw [hx] at h
        cases h
        exact ⟨n, _, _, hx, hq⟩
  · rintro ⟨n, t', b, h, hq⟩
    exact ⟨n + 1, _, _, _, _, by rw [codeA]; (try simp only); rw [h], hq⟩

def WRet (E : Program) (before : AW) (rs : List ResultVar) (e : ExitA) (t : List Value) (ds : List Nat) (b : AW) (K : Value → AW → Prop) : Prop :=
  match e with
  | .normal | .ret => WVal (unwindA ds b) fun b => WVal (resultsA E b t rs) fun vs => K (oneOf (leaveA before vs b).1) (leaveA before vs b).2
  | _ => False
theorem WRet_ret {before rs t ds b K} : WRet E before rs .ret t ds b K = WVal (unwindA ds b) fun b => WVal (resultsA E b t rs) fun vs => K (oneOf (leaveA before vs b).1) (leaveA before vs b).2 := hide rfl
theorem WRet_normal {before rs t ds b K} : WRet E before rs .normal t ds b K = WVal (unwindA ds b) fun b => WVal (resultsA E b t rs) fun vs => K (oneOf (leaveA before vs b).1) (leaveA before vs b).2 := hide rfl
theorem unwind_nil {b} : unwindA [] b = some b := hide rfl
theorem results_nil {b} : resultsA E b t [] = some [] := hide rfl
theorem results_tmp {b d r} : resultsA E b t (.tmp d :: r) = (resultsA E b t r).map (getT t d :: ·) := by
  simp only [resultsA, getT]
  cases resultsA E b t r <;> rfl
theorem results_cell {b d ty r} : resultsA E b t (.cell d ty :: r) = match getT t d with
    | .pointer (some p) => (loadVarA E ty p b).bind fun v => (resultsA E b t r).map (v :: ·)
    | _ => none := by
  unfold getT
  rw [resultsA]
  split
  · rename_i p hp
    rw [hp]
    simp only
    cases loadVarA E ty p b <;> cases resultsA E b t r <;> simp
  · rename_i hp
    split
    · rename_i p hp2
      exact absurd hp2 (hp p)
    · rfl
theorem leave_flat {before : AW} {vs : List Value} {n h b} (hv : vs.all flat = true) : leaveA before vs ⟨n, h, b, []⟩ = (vs, before) := by
  unfold leaveA
  have : vs.filter (fun v => !flat v) = [] := by
    rw [List.filter_eq_nil_iff]
    intro v hm
    simp [List.all_eq_true.1 hv v hm]
  simp [this]
theorem call_body {f : FuncId} {fn : Func} {c : Code} {m : Nat} {rs : List ResultVar} (hf : E.funcs[f]? = some fn) (hb : fn.body = some c) (hm : fn.ntmps = m) (hr : fn.results = rs.toArray) (hG : G f = none) {args : List Value} {a : AW} {K : Value → AW → Prop} :
    WCall E G f args a K = WCode E G f none c (args ++ List.replicate (m - args.length) undef) [] ⟨a.next, a.heap, a.next, []⟩ fun e t ds b => WRet E a rs e t ds b K := by
  obtain rfl : fn.results.toList = rs := by rw [hr]
  subst hm
  refine propext ⟨?_, ?_⟩
  · rintro ⟨n, v, b, h, hk⟩
    cases n with
    | zero => simp [callA] at h
    | succ n =>
      rw [callA] at h
      simp only [given, hG, hf, hb, List.size_toArray] at h
      split at h
      · rename_i e t1 ds1 a1 hc
        refine ⟨n, _, _, _, _, hc, ?_⟩
        cases e with
        | normal =>
          simp only at h
          rw [WRet_normal]
          split at h
          · rename_i a2 hu
            rw [hu, WVal_some]
            split at h
            · rename_i vs hr
              rw [hr, WVal_some]
              simp only [Option.some.injEq, Prod.mk.injEq] at h
              obtain ⟨rfl, rfl⟩ := h
              exact hk
            · cases h
          · cases h
        | ret =>
          simp only at h
          rw [WRet_ret]
          split at h
          · rename_i a2 hu
            rw [hu, WVal_some]
            split at h
            · rename_i vs hr
              rw [hr, WVal_some]
              simp only [Option.some.injEq, Prod.mk.injEq] at h
              obtain ⟨rfl, rfl⟩ := h
              exact hk
            · cases h
          · cases h
        | _ => cases h
      · cases h
  · rintro ⟨n, e, t1, ds1, a1, hc, hr⟩
    cases e with
    | normal =>
      rw [WRet_normal] at hr
      cases hu : unwindA ds1 a1 with
      | none => rw [hu] at hr; exact hr.elim
      | some a2 =>
        rw [hu, WVal_some] at hr
        cases hv : resultsA E a2 t1 fn.results.toList with
        | none => rw [hv] at hr; exact hr.elim
        | some vs =>
          rw [hv, WVal_some] at hr
          exact ⟨n + 1, _, _, by rw [callA]; simp only [given, hG, hf, hb, List.size_toArray, hc, hu, hv], hr⟩
    | ret =>
      rw [WRet_ret] at hr
      cases hu : unwindA ds1 a1 with
      | none => rw [hu] at hr; exact hr.elim
      | some a2 =>
        rw [hu, WVal_some] at hr
        cases hv : resultsA E a2 t1 fn.results.toList with
        | none => rw [hv] at hr; exact hr.elim
        | some vs =>
          rw [hv, WVal_some] at hr
          exact ⟨n + 1, _, _, by rw [callA]; simp only [given, hG, hf, hb, List.size_toArray, hc, hu, hv], hr⟩
    | _ => exact hr.elim
end

section
variable {E : Program} {G : Gives} {t : List Value} {a : AW} {K : Value → AW → Prop} {dsts : List (Option Tmp)} {Q : List Value → AW → Prop}
theorem WL_nil : WL E G dsts [] t a Q = Q t a := hide rfl
theorem WL_plain {d op ty pos af l} : WL E G dsts (⟨some d, op, ty, pos, af, none⟩ :: l) t a Q = WOp E G op t a fun v b => WL E G dsts l (putV t d v) b Q := hide rfl
theorem WL_none {op ty pos af l} : WL E G dsts (⟨none, op, ty, pos, af, none⟩ :: l) t a Q = WOp E G op t a fun v b => WL E G dsts l t b Q := hide rfl
theorem WL_guard {d op ty pos af j b l} : WL E G dsts (⟨some d, op, ty, pos, af, some (j, b)⟩ :: l) t a Q = WGuard (yieldedD dsts t j) b (WOp E G op t a fun v b => WL E G dsts l (putV t d v) b Q) (WL E G dsts l (putV t d undef) a Q) := hide rfl
theorem WL_gnone {op ty pos af j b l} : WL E G dsts (⟨none, op, ty, pos, af, some (j, b)⟩ :: l) t a Q = WGuard (yieldedD dsts t j) b (WOp E G op t a fun v b => WL E G dsts l t b Q) (WL E G dsts l t a Q) := hide rfl
theorem dsts_nil : dstsOf [] = [] := hide rfl
theorem dsts_cons {d op ty pos af g l} : dstsOf (⟨d, op, ty, pos, af, g⟩ :: l) = d :: dstsOf l := hide rfl
theorem op_pure {op : Op} (h : kindO E (oper op) = .pure) : WOp E G op t a K = WVal (pureA E t (oper op)) fun v => K v a := by
  unfold WOp opA
  rw [h]
  cases pureA E t (oper op) <;> rfl
theorem op_read {op : Op} (h : kindO E (oper op) = .read) : WOp E G op t a K = WVal (readA E t (oper op) a) fun v => K v.2 a := by
  unfold WOp opA
  rw [h]
  cases readA E t (oper op) a <;> rfl
theorem op_make {op : Op} (h : kindO E (oper op) = .make) : WOp E G op t a K = WVal (makeA E t (oper op)) fun r => K (r.2 a.next) (a.new r.1) := by
  unfold WOp opA
  rw [h]
  cases makeA E t (oper op) <;> rfl
theorem op_work {op : Op} (h : kindO E (oper op) = .work) : WOp E G op t a K = WVal (workA E t (oper op) a) fun x => match x with
    | (.value v, b) => K v b
    | (.enter f args, b) => WCall E G f args.toList b K
    | (.round l args, b) => WRound E G l args.toList b K := by
  unfold WOp opA
  rw [h]
  rfl
theorem op_move {x} : WOp E G (.move x) t a K = WVal (evalA t x) fun v => K v a := op_pure rfl
theorem op_assign {x} : WOp E G (.assign x) t a K = WVal (evalA t x) fun v => K v a := op_pure rfl
def pickA (c x y : Option Value) : Option Value := match c with
  | some (.bool true) => x
  | some (.bool false) => y
  | _ => none
theorem pick_true {x y} : pickA (some (.bool true)) x y = x := hide rfl
theorem pick_false {x y} : pickA (some (.bool false)) x y = y := hide rfl
theorem op_pick {c x y} : WOp E G (.pick c x y) t a K = WVal (pickA (evalA t c) (evalA t x) (evalA t y)) fun v => K v a := op_pure rfl
theorem op_bin {op ty x y z} : WOp E G (.binOp op ty x y z) t a K = WVal (evalA t x) fun v => WVal (evalA t y) fun u => WVal (binA E op ty x y v u) fun r => K r a := by
  rw [op_pure rfl]
  simp only [pureA, oper]
  cases evalA t x with
  | none => rfl
  | some v => cases evalA t y <;> rfl
def unA (E : Program) (op : UnOp) (v : Value) : Option Value := if flat v then prunF E (Op.unary op v) else none
theorem op_un {op ty x} : WOp E G (.unOp op ty x) t a K = WVal (evalA t x) fun v => WVal (unA E op v) fun r => K r a := by
  rw [op_pure rfl]
  simp only [pureA, oper]
  cases evalA t x with
  | none => rfl
  | some v => rfl
theorem un_not {b : Bool} : unA E .not (.bool b) = some (.bool !b) := hide rfl
theorem un_neg {k : IntKind} {n : Int} : unA E .neg (.int k n) = some (.int k (k.wrap (0 - n))) := hide rfl
def calleeA (v : Value) (args : List Value) : Option (Nat × List Value × Bool) := match v with
  | .func (.func f) first captured => some (f, first.toList ++ args ++ captured.toList, true)
  | .func (.yield l) first _ => some (l, first.toList ++ args, false)
  | _ => none
def wEnter (E : Program) (G : Gives) (r : Nat × List Value × Bool) (a : AW) (K : Value → AW → Prop) (_ : Tag K K := .mk) : Prop := if r.2.2 = true then WCall E G r.1 r.2.1 a K else WRound E G r.1 r.2.1 a K
theorem enter_call {f args} : wEnter E G (f, args, true) a K = WCall E G f args a K := by simp [wEnter]
theorem enter_round {f args} : wEnter E G (f, args, false) a K = WRound E G f args a K := by simp [wEnter]
theorem op_call {f args ts} : WOp E G (.call ⟨.value f, args, ts⟩) t a K = WVal (evals t args.toList) fun vs => WVal (evalA t f) fun v => WVal (calleeA v vs) fun r => wEnter E G r a K := by
  rw [op_work rfl]
  simp only [workA, oper]
  cases evals t args.toList with
  | none => rfl
  | some vs =>
    simp only [WVal_some]
    cases evalA t f with
    | none => rfl
    | some v =>
      simp only [WVal_some]
      cases v with
      | func g first captured => cases g <;> simp [calleeA, wEnter, WVal]
      | _ => rfl
theorem callee_func {f : FuncId} {first captured : Array Value} {args} : calleeA (.func (.func f) first captured) args = some (f, first.toList ++ args ++ captured.toList, true) := hide rfl
theorem callee_yield {f first captured args} : calleeA (.func (.yield f) first captured) args = some (f, first.toList ++ args, false) := hide rfl
theorem evals_nil : evals t [] = some [] := hide rfl
theorem evals_cons {x r} : evals t (x :: r) = (evalA t x).bind fun v => (evals t r).map (v :: ·) := by
  simp only [evals]
  cases evalA t x <;> cases evals t r <;> rfl
theorem eval_tmp {i} : evalA t (.tmp i) = some (getT t i) := hide rfl
theorem eval_func {f} : evalA t (.func f) = some (.func (.func f) #[] #[]) := hide rfl
theorem eval_int {k n} : evalA t (.const (.int k n)) = some (.int k n) := hide rfl
theorem eval_bool {b} : evalA t (.const (.bool b)) = some (.bool b) := hide rfl
theorem eval_str {l : List UInt8} : evalA t (.const (.string ⟨l.toArray⟩)) = some (.string (mkStr l)) := hide rfl
theorem eval_nilFunc : evalA t (.const .nilFunc) = some .nilFunc := hide rfl
theorem eval_nilIface : evalA t (.const .nilIface) = some .nilIface := hide rfl
theorem eval_nilPtr : evalA t (.const (.pointer none)) = some (.pointer none) := hide rfl
theorem eval_nilMap : evalA t (.const (.map none)) = some (.map none) := hide rfl
theorem eval_nilSlice {n c} : evalA t (.const (.slice none n c)) = some (.slice none n c) := hide rfl
theorem eval_const {v} (h : flat v = true) : evalA t (.const v) = some v := by simp [evalA, h]
theorem yielded_at {j} : yieldedD dsts t j = boolAt t (dget dsts j) := hide rfl
theorem boolAt_some {d} : boolAt t (some d) = asBool (getT t d) := hide rfl
theorem boolAt_none : boolAt t none = none := hide rfl
theorem asBool_bool {b} : asBool (.bool b) = some b := hide rfl
theorem asBool_undef : asBool undef = none := hide rfl
theorem getT_zero {v} : getT (v :: t) 0 = v := hide rfl
theorem getT_succ {v i} : getT (v :: t) (i + 1) = getT t i := hide rfl
theorem putV_zero {v u} : putV (v :: t) 0 u = u :: t := hide rfl
theorem putV_succ {v u i} : putV (v :: t) (i + 1) u = v :: putV t i u := hide rfl
theorem dget_zero {v l} : dget (v :: l) 0 = v := hide rfl
theorem dget_succ {v l i} : dget (v :: l) (i + 1) = dget l i := hide rfl
end
section
variable {P : Program} {t : TypeId} {x y : Operand} {k : IntKind} {u v : Int}
theorem prunF_pure {v : Value} (h : flat v = true) : prunF P (Sem.pure v) = some v := by simp [prunF, prun, h]
theorem bin_add : binA P .add t x y (.int k u) (.int k v) = some (.int k (k.wrap (u + v))) := by cases k <;> rfl
theorem bin_sub : binA P .sub t x y (.int k u) (.int k v) = some (.int k (k.wrap (u - v))) := by cases k <;> rfl
theorem bin_mul : binA P .mul t x y (.int k u) (.int k v) = some (.int k (k.wrap (u * v))) := by cases k <;> rfl
theorem bin_lss : binA P .lss t x y (.int k u) (.int k v) = some (.bool (decide (u < v))) := by cases k <;> rfl
theorem bin_leq : binA P .leq t x y (.int k u) (.int k v) = some (.bool (decide (u ≤ v))) := by cases k <;> rfl
theorem bin_gtr : binA P .gtr t x y (.int k u) (.int k v) = some (.bool (decide (v < u))) := by cases k <;> rfl
theorem bin_geq : binA P .geq t x y (.int k u) (.int k v) = some (.bool (decide (v ≤ u))) := by cases k <;> rfl
theorem bin_eql : binA P .eql t x y (.int k u) (.int k v) = some (.bool (decide (u = v))) := by
  have : (u == v) = decide (u = v) := by by_cases h : u = v <;> simp [h]
  rw [← this]; cases k <;> rfl
theorem bin_neq : binA P .neq t x y (.int k u) (.int k v) = some (.bool (!decide (u = v))) := by
  have : (u == v) = decide (u = v) := by by_cases h : u = v <;> simp [h]
  rw [← this]; cases k <;> rfl
theorem bin_quo (h : v ≠ 0) : binA P .quo t x y (.int k u) (.int k v) = some (.int k (k.wrap (u.tdiv v))) := by
  have : binA P .quo t x y (.int k u) (.int k v) = prunF P (Op.intDiv .quo k u v) := by cases k <;> rfl
  rw [this]; unfold Op.intDiv; rw [if_neg h]; rfl
theorem bin_rem (h : v ≠ 0) : binA P .rem t x y (.int k u) (.int k v) = some (.int k (u.tmod v)) := by
  have : binA P .rem t x y (.int k u) (.int k v) = prunF P (Op.intDiv .rem k u v) := by cases k <;> rfl
  rw [this]; unfold Op.intDiv; rw [if_neg h]; rfl
theorem bin_str {op : BinOp} {u v : ByteArray} : binA P op t x y (.string u) (.string v) = strA op u v := hide rfl
theorem eqBytes_iff : ∀ (u v : List UInt8), eqBytes u v = decide (u = v)
  | [], [] => by simp [eqBytes]
  | [], _ :: _ => by simp [eqBytes]
  | _ :: _, [] => by simp [eqBytes]
  | a :: u, b :: v => by
    rw [eqBytes, eqBytes_iff u v]
    have : (Nat.beq a.toNat b.toNat) = decide (a = b) := by
      by_cases h : a = b
      · subst h; simp
      · have : a.toNat ≠ b.toNat := fun e => h (UInt8.toNat_inj.1 e)
        have h2 : Nat.beq a.toNat b.toNat = false := by
          cases hb : Nat.beq a.toNat b.toNat with
          | false => rfl
          | true => exact absurd (Nat.eq_of_beq_eq_true hb) this
        rw [h2]; simp [h]
    rw [this]
    by_cases h : a = b <;> simp [h]
section
variable {p q : List UInt8}
theorem str_eql : strA .eql (mkStr p) (mkStr q) = some (.bool (decide (p = q))) := by
  rw [← eqBytes_iff]; rfl
theorem str_neq : strA .neq (mkStr p) (mkStr q) = some (.bool (!decide (p = q))) := by
  rw [← eqBytes_iff]; rfl
theorem str_add (h : p.length + q.length ≤ 140737488355328) : strA .add (mkStr p) (mkStr q) = some (.string (mkStr (p ++ q))) := by
  have : (mkStr p).size + (mkStr q).size ≤ 140737488355328 := h
  simp only [strA]; rw [if_pos this]; rfl
theorem str_lss : strA .lss (mkStr p) (mkStr q) = some (.bool (Op.bytesLess p q)) := hide rfl
theorem str_geq : strA .geq (mkStr p) (mkStr q) = some (.bool (!Op.bytesLess p q)) := hide rfl
theorem str_leq : strA .leq (mkStr p) (mkStr q) = some (.bool (Op.bytesLess p q || decide (p = q))) := by
  rw [← eqBytes_iff]; rfl
theorem str_gtr : strA .gtr (mkStr p) (mkStr q) = some (.bool (!(Op.bytesLess p q || decide (p = q)))) := by
  rw [← eqBytes_iff]; rfl
theorem mkStr_size : (mkStr p).size = p.length := hide rfl
end
end
end Go.Proofs.YtmdfejlfdgaomaaAM
