/- Texts of a proof: no condition. -/
import Derived.Test.YtbmpmjljbiepiaaGreatOneR
set_option autoImplicit true
set_option relaxedAutoImplicit true
set_option linter.all false
set_option linter.unusedVariables false
set_option linter.unusedSimpArgs false
/-! L1, nineteenth part: code, with what comes behind it handed in: the shape in which functions are printed. -/
namespace Go.L1
open Go

section
variable {ρ : Type}
def ob {α : Type} (x : Option α) (f : α → Option ρ) : Option ρ :=
  match x with
  | none => none
  | some a => f a
theorem ob_some {α : Type} (a : α) (f : α → Option ρ) : ob (some a) f = f a := rfl
theorem ob_none {α : Type} (f : α → Option ρ) : ob none f = none := rfl
/-- what comes behind a fork, told once -/
def jn {α β : Type} (K : α) (F : α → β) : β := F K
def fork (v : Value) (a b : Option ρ) : Option ρ :=
  match v with
  | .bool true => a
  | .bool false => b
  | _ => none
abbrev onEx {β : Type} (ex : Ex) (n : β) (e : Nat → β) (r : β) : β :=
  match ex with
  | .normal => n
  | .exit id => e id
  | .ret => r

abbrev KT (ρ : Type) := Ex → Env → H → List Nat → Option ρ
abbrev JT (ρ : Type) := List Value → H → List Nat → Option ρ

/-- an operation that makes one object -/
def al (x : Option (Value × IObj)) (h : H) (f : Value → H → Option ρ) : Option ρ :=
  match x with
  | none => none
  | some q => f q.1 (h.push q.2)
/-- an operation that may write -/
def hv (x : Option (Value × H × List Nat)) (f : Value → H → List Nat → Option ρ) : Option ρ :=
  match x with
  | none => none
  | some r => f r.1 r.2.1 r.2.2
def pureK (p : Pg) (T : Env) (C : Cont) (o : Op) (f : Value → Option ρ) : Option ρ :=
  match o with
  | .move x => f (eval T x)
  | .assign x => f (eval T x)
  | o => ob (pureV p T C o) f
theorem pureK_eq (p : Pg) (T : Env) (C : Cont) (o : Op) (f : Value → Option ρ) : pureK p T C o f = ob (pureV p T C o) f := by
  cases o <;> rfl

/-- an operation under a guard -/
def gV (w : Option Bool) (x : Option (Value × H × List Nat)) (h : H) : Option (Value × H × List Nat) :=
  match w with
  | none => none
  | some true => x
  | some false => some (ud, h, [])

/-- an operation under a guard that at most reads -/
def gP (w : Option Bool) (x : Option Value) (f : Value → Option ρ) : Option ρ :=
  match w with
  | none => none
  | some true => ob x f
  | some false => f ud

def opsK (p : Pg) (call : CallF) (all : List Oper) : List Oper → Env → H → List Nat → (Env → H → List Nat → Option ρ) → Option ρ
  | [], T, h, lg, K => K T h lg
  | o :: rest, T, h, lg, K =>
    match o.guard with
    | none =>
      match kindOf o.op with
      | .pure => pureK p T h.get o.op fun v => opsK p call all rest (putT T o.dst v) h lg K
      | .alloc => al (allocV p T h.n o.op) h fun v h => opsK p call all rest (putT T o.dst v) h lg K
      | .heavy => hv (heavyV p call T h o.op) fun v h l => opsK p call all rest (putT T o.dst v) h (l ++ lg) K
    | some g =>
      match kindOf o.op with
      | .pure => gP (wantedV all T (some g)) (pureV p T h.get o.op) fun v => opsK p call all rest (putT T o.dst v) h lg K
      | _ => hv (gV (wantedV all T (some g)) (opV p call T h o.op) h) fun v h l => opsK p call all rest (putT T o.dst v) h (l ++ lg) K

def markOf (w : Option Bool) (T : Env) (h h1 : H) (o : Op) (l1 : List Nat) : Mk :=
  match w with
  | some true => ⟨kindOf o, readsOf T o, l1, h.n, h1.n⟩
  | _ => ⟨.pure, [], [], h.n, h.n⟩
def opsD (p : Pg) (call : CallF) (all : List Oper) : List Oper → Env → H → List Mk → (Env → H → List Mk → Option ρ) → Option ρ
  | [], T, h, ms, K => K T h ms
  | o :: rest, T, h, ms, K =>
    match o.guard with
    | none =>
      match kindOf o.op with
      | .pure => pureK p T h.get o.op fun v => opsD p call all rest (putT T o.dst v) h (ms ++ [⟨.pure, readsOf T o.op, [], h.n, h.n⟩]) K
      | .alloc => al (allocV p T h.n o.op) h fun v h1 => opsD p call all rest (putT T o.dst v) h1 (ms ++ [⟨.alloc, readsOf T o.op, [], h.n, h.n + 1⟩]) K
      | .heavy => hv (heavyV p call T h o.op) fun v h1 l => opsD p call all rest (putT T o.dst v) h1 (ms ++ [⟨.heavy, readsOf T o.op, l, h.n, h1.n⟩]) K
    | some g =>
      match kindOf o.op with
      | .pure => gP (wantedV all T (some g)) (pureV p T h.get o.op) fun v => opsD p call all rest (putT T o.dst v) h (ms ++ [markOf (wantedV all T (some g)) T h h o.op []]) K
      | _ => hv (gV (wantedV all T (some g)) (opV p call T h o.op) h) fun v h1 l => opsD p call all rest (putT T o.dst v) h1 (ms ++ [markOf (wantedV all T (some g)) T h h1 o.op l]) K

/-- the end of a region that draws -/
def dr (bs : List Nat) (ms : List Mk) (f : List Nat → Option ρ) : Option ρ := bif (logOf ms).isEmpty || clashFree bs ms then f (logOf ms) else none

def rangeV (call : CallF) (fn : Nat) (T : Env) (h : H) (f : Value) (ps : Array Tmp) (asg body : Code) : Option (Ex × H × List Nat) :=
  match f with
  | .func (.func g) first cap =>
    match call (.fn g) (first.toList ++ [.func (.yield h.n) #[] #[]] ++ cap.toList) (h.push (.loop .ready none fn T ps.toList asg body)) with
    | none => none
    | some (_, h1, lg) =>
      match h1.get h.n with
      | some (.loop st pend _ _ _ _ _) =>
        if st = .busy then none else
        match jumpEx pend with
        | none => none
        | some ex => some (ex, h1.set h.n .dead, h.n :: lg)
      | _ => none
  | _ => none

def codeK (p : Pg) (call : CallF) (lp : LoopF) (fn : Nat) : {ρ : Type} → Code → Nat → Env → H → List Nat → KT ρ → Option ρ
  | _, .skip, _, T, h, lg, K => K .normal T h lg
  | _, .region _ ops draw, _, T, h, lg, K =>
    match draw with
    | false => opsK p call ops.toList ops.toList T h lg fun T h lg => K .normal T h lg
    | true => opsD p call ops.toList ops.toList T h [] fun T h ms =>
      dr (befores [] ops.toList) ms fun l => K .normal T h (l ++ lg)
  | _, .seq a b, k, T, h, lg, K =>
    codeK p call lp fn a (2 * k) T h lg fun ex T h lg => onEx ex (codeK p call lp fn b (2 * k + 1) T h lg K) (fun id => K (.exit id) T h lg) (K .ret T h lg)
  | _, .cond c a b, k, T, h, lg, K =>
    jn (fun vs h lg => K .normal (Env.ofList (p.live fn k) vs) h lg) fun j => fork (eval T c)
      (codeK p call lp fn a (2 * k) T h lg fun ex T h lg => onEx ex (j (T.vals (p.live fn k)) h lg) (fun id => K (.exit id) T h lg) (K .ret T h lg))
      (codeK p call lp fn b (2 * k + 1) T h lg fun ex T h lg => onEx ex (j (T.vals (p.live fn k)) h lg) (fun id => K (.exit id) T h lg) (K .ret T h lg))
  | _, .block id b, k, T, h, lg, K =>
    jn (fun vs h lg => K .normal (Env.ofList (p.live fn k) vs) h lg) fun j =>
      codeK p call lp fn b (2 * k) T h lg fun ex T h lg => onEx ex (j (T.vals (p.live fn k)) h lg) (fun id' => bif Nat.beq id' id then j (T.vals (p.live fn k)) h lg else K (.exit id') T h lg) (K .ret T h lg)
  | _, .loop b, k, T, h, lg, K =>
    ob (lp (fun vs h => codeK p call lp fn b (2 * k) (Env.ofList (p.live fn k) vs) h [] fun ex T h lg => some ⟨ex, T.vals (p.live fn k), h, lg⟩) (T.vals (p.live fn k)) h) fun o =>
      K o.ex (Env.ofList (p.live fn k) o.vs) o.h (o.lg ++ lg)
  | _, .exit id, _, T, h, lg, K => K (.exit id) T h lg
  | _, .ret, _, T, h, lg, K => K .ret T h lg
  | _, .rangeFunc f ps asg body, _, T, h, lg, K => ob (rangeV call fn T h (eval T f) ps asg body) fun r => K r.1 T r.2.1 (r.2.2 ++ lg)
  | _, _, _, _, _, _, _ => none

theorem gV_eq {p : Pg} {call : CallF} {T : Env} {h : H} {o : Oper} {w : Option Bool} {f : Value → H → List Nat → Option ρ} :
    hv (gV w (opV p call T h o.op) h) f = match w with
      | none => none
      | some false => f ud h []
      | some true => match opV p call T h o.op with
        | none => none
        | some r => f r.1 r.2.1 r.2.2 := by
  cases w with
  | none => rfl
  | some b => cases b <;> first | rfl | (simp only [gV, hv]; cases opV p call T h o.op <;> rfl)

theorem gP_eq {p : Pg} {call : CallF} {T : Env} {h : H} {o : Oper} {w : Option Bool} {f : Value → Option ρ} (hk : kindOf o.op = .pure) :
    gP w (pureV p T h.get o.op) f = match w with
      | none => none
      | some false => f ud
      | some true => match opV p call T h o.op with
        | none => none
        | some r => f r.1 := by
  cases w with
  | none => rfl
  | some b =>
    cases b
    · rfl
    · simp only [gP, opV, hk]
      cases pureV p T h.get o.op <;> rfl

theorem opsK_eq {p : Pg} {call : CallF} {all : List Oper} : ∀ (l : List Oper) (T : Env) (h : H) (lg : List Nat) (K : Env → H → List Nat → Option ρ),
    opsK p call all l T h lg K = match ops1 p call all l T h lg with
      | none => none
      | some (T, h, lg) => K T h lg
  | [], _, _, _, _ => rfl
  | o :: l, T, h, lg, K => by
    unfold opsK ops1
    cases hg : o.guard with
    | none =>
      simp only [wantedV]
      unfold opV
      cases hk : kindOf o.op with
      | pure =>
        simp only
        rw [pureK_eq]
        cases pureV p T h.get o.op with
        | none => rfl
        | some v => simp only [ob, Option.map_some, List.nil_append]; exact opsK_eq l _ _ _ _
      | alloc =>
        simp only
        cases allocV p T h.n o.op with
        | none => rfl
        | some v => simp only [al, Option.map_some, List.nil_append]; exact opsK_eq l _ _ _ _
      | heavy =>
        simp only
        cases heavyV p call T h o.op with
        | none => rfl
        | some v => simp only [hv]; exact opsK_eq l _ _ _ _
    | some g =>
      simp only
      have hv1 : hv (gV (wantedV all T (some g)) (opV p call T h o.op) h) (fun v h l1 => opsK p call all l (putT T o.dst v) h (l1 ++ lg) K) = match (match wantedV all T (some g) with
          | none => none
          | some false => ops1 p call all l (putT T o.dst ud) h lg
          | some true => match opV p call T h o.op with
            | none => none
            | some (v, h1, l1) => ops1 p call all l (putT T o.dst v) h1 (l1 ++ lg) : Option (Env × H × List Nat)) with
          | none => none
          | some (T, h, lg) => K T h lg := by
        rw [gV_eq]
        cases wantedV all T (some g) with
        | none => rfl
        | some b =>
          cases b
          · simp only [List.nil_append]; exact opsK_eq l _ _ _ _
          · simp only
            cases opV p call T h o.op with
            | none => rfl
            | some v => exact opsK_eq l _ _ _ _
      cases hk : kindOf o.op with
      | pure =>
        simp only
        rw [gP_eq (call := call) hk]
        cases wantedV all T (some g) with
        | none => rfl
        | some b =>
          cases b
          · simp only; exact opsK_eq l _ _ _ _
          · simp only
            unfold opV
            rw [hk]
            simp only
            cases pureV p T h.get o.op with
            | none => rfl
            | some v => simp only [Option.map_some, List.nil_append]; exact opsK_eq l _ _ _ _
      | alloc => exact hv1
      | heavy => exact hv1

theorem opsD_eq {p : Pg} {call : CallF} {all : List Oper} : ∀ (l : List Oper) (T : Env) (h : H) (ms : List Mk) (K : Env → H → List Mk → Option ρ),
    opsD p call all l T h ms K = match ops2 p call all l T h ms with
      | none => none
      | some (T, h, ms) => K T h ms
  | [], _, _, _, _ => rfl
  | o :: l, T, h, ms, K => by
    unfold opsD ops2
    cases hg : o.guard with
    | none =>
      simp only [wantedV]
      unfold opV
      cases hk : kindOf o.op with
      | pure =>
        simp only
        rw [pureK_eq]
        cases pureV p T h.get o.op with
        | none => rfl
        | some v => simp only [ob, Option.map_some]; exact opsD_eq l _ _ _ _
      | alloc =>
        simp only
        cases allocV p T h.n o.op with
        | none => rfl
        | some v => simp only [al, Option.map_some]; exact opsD_eq l _ _ _ _
      | heavy =>
        simp only
        cases heavyV p call T h o.op with
        | none => rfl
        | some v => simp only [hv]; exact opsD_eq l _ _ _ _
    | some g =>
      simp only
      have hv1 : hv (gV (wantedV all T (some g)) (opV p call T h o.op) h) (fun v h1 l1 => opsD p call all l (putT T o.dst v) h1 (ms ++ [markOf (wantedV all T (some g)) T h h1 o.op l1]) K) = match (match wantedV all T (some g) with
          | none => none
          | some false => ops2 p call all l (putT T o.dst ud) h (ms ++ [⟨.pure, [], [], h.n, h.n⟩])
          | some true => match opV p call T h o.op with
            | none => none
            | some (v, h1, l1) => ops2 p call all l (putT T o.dst v) h1 (ms ++ [⟨kindOf o.op, readsOf T o.op, l1, h.n, h1.n⟩]) : Option (Env × H × List Mk)) with
          | none => none
          | some (T, h, ms) => K T h ms := by
        rw [gV_eq]
        cases wantedV all T (some g) with
        | none => rfl
        | some b =>
          cases b
          · simp only [markOf]; exact opsD_eq l _ _ _ _
          · simp only
            cases opV p call T h o.op with
            | none => rfl
            | some v => simp only [markOf]; exact opsD_eq l _ _ _ _
      cases hk : kindOf o.op with
      | pure =>
        simp only
        rw [gP_eq (call := call) hk]
        cases wantedV all T (some g) with
        | none => rfl
        | some b =>
          cases b
          · simp only [markOf]; exact opsD_eq l _ _ _ _
          · simp only
            unfold opV
            rw [hk]
            simp only
            cases pureV p T h.get o.op with
            | none => rfl
            | some v => simp only [Option.map_some, markOf, hk]; exact opsD_eq l _ _ _ _
      | alloc => simp only [hk] at hv1; exact hv1
      | heavy => simp only [hk] at hv1; exact hv1

theorem codeK_eq {p : Pg} {call : CallF} {lp : LoopF} {fn : Nat} : ∀ (c : Code) {ρ : Type} (k : Nat) (T : Env) (h : H) (lg : List Nat) (K : KT ρ),
    codeK p call lp fn c k T h lg K = match code p call lp fn c k T h with
      | none => none
      | some o => K o.ex o.T o.h (o.lg ++ lg) := by
  intro c
  induction c with
  | skip => intro ρ k T h lg K; simp [codeK, code]
  | region id ops draw =>
    intro ρ k T h lg K
    cases draw
    · simp only [codeK, code, region, cond_false]
      rw [opsK_eq]
      have e : ∀ (l : List Oper) (T : Env) (h : H) (lg : List Nat), ops1 p call ops.toList l T h lg = match ops1 p call ops.toList l T h [] with
          | none => none
          | some (T, h, l1) => some (T, h, l1 ++ lg) := by
        intro l
        induction l with
        | nil => intro T h lg; simp [ops1]
        | cons o l ih =>
          intro T h lg
          unfold ops1
          cases wantedV ops.toList T o.guard with
          | none => rfl
          | some b =>
            cases b
            · exact ih _ _ _
            · simp only
              cases opV p call T h o.op with
              | none => rfl
              | some r =>
                simp only [List.append_nil]
                rw [ih _ _ (r.2.2 ++ lg), ih _ _ r.2.2]
                cases ops1 p call ops.toList l (putT T o.dst r.1) r.2.1 [] with
                | none => rfl
                | some q => simp
      rw [e]
      cases ops1 p call ops.toList ops.toList T h [] with
      | none => rfl
      | some r => rfl
    · simp only [codeK, code, region, cond_true]
      rw [opsD_eq]
      cases ops2 p call ops.toList ops.toList T h [] with
      | none => rfl
      | some r =>
        simp only [dr]
        cases hb : (logOf r.2.2).isEmpty || clashFree (befores [] ops.toList) r.2.2 <;> simp
  | seq a b iha ihb =>
    intro ρ k T h lg K
    simp only [codeK, code]
    rw [iha]
    cases code p call lp fn a (2 * k) T h with
    | none => rfl
    | some o =>
      simp only
      cases hx : o.ex with
      | normal =>
        simp only [onEx]
        rw [ihb]
        cases code p call lp fn b (2 * k + 1) o.T o.h with
        | none => rfl
        | some o2 => simp
      | exit id => simp only [onEx, hx]
      | ret => simp only [onEx, hx]
  | cond c a b iha ihb =>
    intro ρ k T h lg K
    have key : ∀ (x : Option Out), (match x with
        | none => none
        | some o => onEx o.ex (K .normal (Env.ofList (p.live fn k) (o.T.vals (p.live fn k))) o.h (o.lg ++ lg)) (fun id => K (.exit id) o.T o.h (o.lg ++ lg)) (K .ret o.T o.h (o.lg ++ lg))) =
        (match x.map (maskN (p.live fn k)) with
        | none => none
        | some o => K o.ex o.T o.h (o.lg ++ lg)) := by
      intro x
      cases x with
      | none => rfl
      | some o =>
        simp only [Option.map_some, maskN]
        cases hx : o.ex with
        | normal => simp [onEx, mask, mkOut, hx]
        | exit id => simp [onEx, hx]
        | ret => simp [onEx, hx]
    simp only [codeK, code, jn]
    cases eval T c with
    | bool t =>
      cases t
      · simp only [fork, cond_false]
        rw [ihb]; exact key _
      · simp only [fork, cond_true]
        rw [iha]; exact key _
    | _ => rfl
  | block id b ih =>
    intro ρ k T h lg K
    simp only [codeK, code, jn]
    rw [ih]
    cases code p call lp fn b (2 * k) T h with
    | none => rfl
    | some o =>
      simp only
      cases hx : o.ex with
      | normal => simp [onEx, mask, mkOut, hx]
      | ret => simp [onEx, hx]
      | exit id' =>
        simp only [onEx]
        by_cases e : id' = id
        · subst e; simp [mask, mkOut]
        · have : Nat.beq id' id = false := by rw [Bool.eq_false_iff]; intro hb; exact e (Nat.eq_of_beq_eq_true hb)
          simp [this, e, hx]
  | loop b ih =>
    intro ρ k T h lg K
    simp only [codeK, code]
    have e : (fun (vs : List Value) (h : H) => codeK p call lp fn b (2 * k) (Env.ofList (p.live fn k) vs) h [] fun ex T h lg => some (⟨ex, T.vals (p.live fn k), h, lg⟩ : LOut)) =
        (fun vs h => match code p call lp fn b (2 * k) (Env.ofList (p.live fn k) vs) h with
          | none => none
          | some o => some ⟨o.ex, o.T.vals (p.live fn k), o.h, o.lg⟩) := by
      funext vs h
      rw [ih]
      cases code p call lp fn b (2 * k) (Env.ofList (p.live fn k) vs) h with
      | none => rfl
      | some o => simp
    rw [e]
    unfold ob
    split
    · rename_i heq
      split
      · rfl
      · rename_i heq2
        split at heq2
        · cases heq2
        · rename_i heq3
          have := heq.symm.trans heq3
          cases this
    · rename_i o heq
      split
      · rename_i heq2
        split at heq2
        · rename_i heq3
          have := heq.symm.trans heq3
          cases this
        · cases heq2
      · rename_i o2 heq2
        split at heq2
        · cases heq2
        · rename_i o3 heq3
          have := heq.symm.trans heq3
          cases this
          cases heq2
          rfl
  | exit id => intro ρ k T h lg K; simp [codeK, code]
  | ret => intro ρ k T h lg K; simp [codeK, code]
  | rangeFunc f ps asg body iha ihb =>
    intro ρ k T h lg K
    simp only [codeK, code, rangeV]
    cases eval T f with
    | func g first cap =>
      cases g with
      | func g =>
        simp only
        cases call (.fn g) (first.toList ++ [.func (.yield h.n) #[] #[]] ++ cap.toList) (h.push (.loop .ready none fn T ps.toList asg body)) with
        | none => rfl
        | some r =>
          obtain ⟨v, h1, lg1⟩ := r
          simp only
          cases hg : h1.get h.n with
          | none => rfl
          | some ob1 =>
            cases ob1 with
            | loop st pend _ _ _ _ _ =>
              simp only
              by_cases hs : st = .busy
              · simp [hs, ob]
              · simp only [hs, if_false]
                cases jumpEx pend with
                | none => rfl
                | some ex => simp [ob]
            | _ => rfl
      | _ => rfl
    | _ => rfl
  | _ => intro ρ k T h lg K; simp [codeK, code]
end

section
variable {p : Pg}
def finK (p : Pg) (h : H) (rs : List ResultVar) : KT (Value × H × List Nat) := fun ex T h1 lg =>
  onEx ex (ob (resultsV p T h1 rs) fun vs => some (settle h (tupled vs) h1 lg)) (fun _ => none) (ob (resultsV p T h1 rs) fun vs => some (settle h (tupled vs) h1 lg))

/-- **A function's run**, by its printed text. -/
theorem ic_of_codeK {f : Nat} {fn : Func} {c : Code} (hsp : p.spec f = none) (hfn : p.fn f = some fn) (hb : fn.body = some c) {args : List Value} (hlen : args.length ≤ fn.ntmps) {h : H} {r : Value × H × List Nat}
    (hh : codeK p (ic p) lw f c 3 (Env.args 0 args) h [] (finK p h fn.results.toList) = some r) : ic p (.fn f) args h = some r := by
  refine ic_fn ?_
  unfold funcV
  rw [hsp]
  simp only [hfn, hb, if_pos hlen]
  rw [codeK_eq] at hh
  cases ho : code p (ic p) lw f c 3 (Env.args 0 args) h with
  | none => rw [ho] at hh; cases hh
  | some o =>
    rw [ho] at hh
    simp only [finK, List.append_nil] at hh ⊢
    cases hx : o.ex with
    | exit id => rw [hx] at hh; cases hh
    | normal =>
      rw [hx] at hh
      simp only [onEx] at hh
      cases hv : resultsV p o.T o.h fn.results.toList with
      | none => rw [hv] at hh; cases hh
      | some vs => rw [hv] at hh; exact hh
    | ret =>
      rw [hx] at hh
      simp only [onEx] at hh
      cases hv : resultsV p o.T o.h fn.results.toList with
      | none => rw [hv] at hh; cases hh
      | some vs => rw [hv] at hh; exact hh
end
end Go.L1
