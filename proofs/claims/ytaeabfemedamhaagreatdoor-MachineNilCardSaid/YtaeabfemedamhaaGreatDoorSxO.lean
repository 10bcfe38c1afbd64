/-
  A function's contract out of its simplified code.
-/
import Derived.Test.YtaeabfemedamhaaGreatDoorSxN
import Derived.RecoverIn
namespace Go.Sx
open Go

variable {P : Program} {σ : Env} {nt : Nat} {ds : List Deferred} {fl : Bool}

/-- What the results hold. -/
def resQ (σ : Env) (h : Heap) : List SRes → (List Value → Prop) → Prop
  | [], K => K []
  | .t n :: r, K => match σ n with
    | some v => resQ σ h r fun vs => K (v :: vs)
    | none => False
  | .c1 a :: r, K => match σ a with
    | some (.pointer (some ⟨b, o, none⟩)) => ∃ v, cell h b o = some v ∧ resQ σ h r fun vs => K (v :: vs)
    | _ => False
  | .cn a n :: r, K => match σ a with
    | some (.pointer (some ⟨b, o, none⟩)) => ∃ vs, vs.length = n ∧ Cells h b o vs ∧ resQ σ h r fun us => K (.agg ⟨vs⟩ :: us)
    | _ => False

def retV : List Value → Value
  | [v] => v
  | vs => .tuple ⟨vs⟩

/-- How a frame leaves: the marks of its ranges over functions are shut. -/
def leaveQ (rs : List SRes) (R : Ending → Heap → Prop) (σ : Env) : List Deferred → FrameMode → Heap → Prop
  | [], .returning, h => resQ σ h rs fun vs => R (.returned (retV vs)) h
  | [], .panicking ch, h => R (.panicked ch) h
  | [], .run, _ => False
  | d :: ds, u, h => match d.target with
    | .collected D => h[D]? = some (.deferred (some [])) ∧ ∀ h', PutO h h' D (.deferred none) → leaveQ rs R σ ds u h'
    | _ => False

def retQ (rs : List SRes) (R : Ending → Heap → Prop) : Post
  | .normal, σ, ds, h | .ret, σ, ds, h => leaveQ rs R σ ds .returning h
  | .panic ch, σ, ds, h => leaveQ rs R σ ds (.panicking ch) h
  | _, _, _, _ => False

def argEnv : Nat → List Value → Env
  | _, [] => fun _ => none
  | n, v :: vs => upd (argEnv (n + 1) vs) (some n) v

def resSem (tmps : Array Value) : ResultVar → Sem Value
  | .tmp t => pure (tmps.getD t undef)
  | .cell a t => do loadVar t (← asAddr (tmps.getD a undef))

theorem results_eq (fn : Func) (tmps : Array Value) : results fn tmps = (do let vs ← fn.results.mapM (resSem tmps); pure (if h : vs.size = 1 then vs[0] else .tuple vs)) := by
  have e : (fun x => match x with
    | ResultVar.tmp t => (pure (tmps.getD t undef) : Sem Value)
    | ResultVar.cell a t => do loadVar t (← asAddr (tmps.getD a undef))) = resSem tmps := by
    funext x; cases x <;> rfl
  unfold results
  rw [← e]
  rfl

theorem run_asAddr (a : Addr) (w : World) : (asAddr (.pointer (some a))).run P w = .ok a w := rfl

theorem resQ_run {ro : Unit} : ∀ (rv : List ResultVar) (rs : List SRes) (K : List Value → Prop) (a : Act) (w : World), cres P rv = some rs → Rel σ nt ds a → resQ σ w.heap rs K →
    ∃ vs, (rv.mapM (resSem a.tmps)).run P w = .ok vs w ∧ vs.length = rv.length ∧ K vs
  | [], rs, K, a, w, hc, hr, h => by
    simp [cres] at hc; subst hc
    exact ⟨[], by simp, rfl, h⟩
  | .tmp n :: rv, rs, K, a, w, hc, hr, h => by
    simp only [cres, Option.map_eq_some_iff] at hc
    obtain ⟨r, hr0, rfl⟩ := hc
    simp only [resQ] at h
    split at h
    · rename_i v hv
      obtain ⟨vs, h1, h2, h3⟩ := resQ_run (ro := ro) rv r _ a w hr0 hr h
      have hk := hr.knows (.tmp n) v hv
      simp only [Act.eval] at hk
      refine ⟨v :: vs, ?_, by simp [h2], h3⟩
      simp only [List.mapM_cons, resSem, Sem.run_bind, Sem.run_pure, Result.andThen_ok, h1, hk]
    · exact h.elim
  | .cell x t :: rv, rs, K, a, w, hc, hr, h => by
    simp only [cres] at hc
    split at hc
    · rename_i n l hg hs hl
      simp at hc; subst hc
      simp only [resQ] at h
      split at h
      · rename_i b o hx
        obtain ⟨us, hn, hcs, h⟩ := h
        obtain ⟨vs, h1, h2, h3⟩ := resQ_run (ro := ro) rv l _ a w hl hr h
        have hk := hr.knows (.tmp x) _ hx
        simp only [Act.eval] at hk
        have hld := run_loadAtN (P := P) hg hs hn w rfl hcs
        have hld' : (loadVar t ⟨b, o, none⟩).run P w = .ok (.agg ⟨us⟩) w := by simpa [Instr.loadAt, Instr.sureAddr] using hld
        refine ⟨.agg ⟨us⟩ :: vs, ?_, by simp [h2], h3⟩
        simp only [List.mapM_cons, resSem, Sem.run_bind, Sem.run_pure, Result.andThen_ok, h1, hk, run_asAddr, hld']
      · exact h.elim
    · rename_i n l hg hs hl
      simp at hc; subst hc
      simp only [resQ] at h
      split at h
      · rename_i b o hx
        obtain ⟨u, hcs, h⟩ := h
        obtain ⟨vs, h1, h2, h3⟩ := resQ_run (ro := ro) rv l _ a w hl hr h
        have hk := hr.knows (.tmp x) _ hx
        simp only [Act.eval] at hk
        have hld := run_loadAt1 (P := P) hg w rfl hcs
        have hld' : (loadVar t ⟨b, o, none⟩).run P w = .ok u w := by simpa [Instr.loadAt, Instr.sureAddr] using hld
        refine ⟨u :: vs, ?_, by simp [h2], h3⟩
        simp only [List.mapM_cons, resSem, Sem.run_bind, Sem.run_pure, Result.andThen_ok, h1, hk, run_asAddr, hld']
      · exact h.elim
    · simp at hc

theorem run_results {fn : Func} {rs : List SRes} {K : List Value → Prop} {a : Act} {w : World} (hc : cres P fn.results.toList = some rs) (hr : Rel σ nt ds a) (h : resQ σ w.heap rs K) :
    ∃ vs, (results fn a.tmps).run P w = .ok (retV vs) w ∧ K vs := by
  obtain ⟨vs, h1, h2, h3⟩ := resQ_run (P := P) (ro := ()) fn.results.toList rs K a w hc hr h
  refine ⟨vs, ?_, h3⟩
  have e := Array.mapM_eq_mapM_toList (m := Sem) (f := resSem a.tmps) (xs := fn.results)
  rw [results_eq, Sem.run_bind, e, Sem.run_map, h1]
  simp only [Result.andThen_ok, Sem.run_pure]
  cases vs with
  | nil => rfl
  | cons v vs => cases vs <;> rfl

theorem leaves_of {fn : Func} {rs : List SRes} {R : Ending → Heap → Prop} {w0 : World} (hc : cres P fn.results.toList = some rs) {n : Nat} : ∀ (ds ds' : List Deferred) (u : FrameMode) (a : Act) (w : World), Rel σ nt ds' a → SameB w0 w →
    leaveQ rs R σ ds u w.heap → LeavesInM Fence.wide n P fn a.tmps (fun e w' => R e w'.heap ∧ e ≠ .outgrown ∧ w'.os = w0.os ∧ w'.output = w0.output ∧ w'.tape = w0.tape) ds u w
  | [], ds', .returning, a, w, hr, hb, h => by
    obtain ⟨vs, h1, h2⟩ := run_results hc hr h
    exact ⟨_, h1, h2, by simp, hb⟩
  | [], ds', .panicking ch, a, w, hr, hb, h => ⟨h, by simp, hb⟩
  | [], ds', .run, a, w, hr, hb, h => h.elim
  | d :: ds, ds', u, a, w, hr, hb, h => by
    simp only [leaveQ] at h
    split at h
    · rename_i D hd
      obtain ⟨h1, h2⟩ := h
      have ht := run_takeDeferred (P := P) (w := w) h1
      have := leaves_of (n := n) hc ds ds' u a (w.putObj D (.deferred none)) hr (hb.trans ⟨rfl, rfl, rfl⟩) (h2 _ (putO_of_set h1))
      have hu : u ≠ .run := by
        rintro rfl
        clear ht h2 h1
        induction ds generalizing w with
        | nil => simp [LeavesInM, LeavesIn] at this
        | cons d ds ih => exact absurd rfl this.1
      exact ⟨hu, .inl ⟨D, _, hd, ht, this⟩⟩
    · exact h.elim

theorem argEnv_spec : ∀ (args : List Value) (n t : Nat) (v : Value), argEnv n args t = some v → n ≤ t ∧ args[t - n]? = some v
  | [], n, t, v, h => by simp [argEnv] at h
  | x :: args, n, t, v, h => by
    by_cases ht : t = n
    · subst ht
      simp [argEnv, upd] at h
      simp [h]
    · have : argEnv (n + 1) args t = some v := by
        rw [← h]; exact (upd_ne (by intro e; exact ht (by simpa using e.symm))).symm
      obtain ⟨h1, h2⟩ := argEnv_spec args (n + 1) t v this
      refine ⟨by omega, ?_⟩
      have e : t - n = (t - (n + 1)) + 1 := by omega
      rw [e, List.getElem?_cons_succ]; exact h2

theorem rel_enter (nt : Nat) (args : List Value) (ha : args.length ≤ nt) : Rel (argEnv 0 args) nt [] { tmps := (⟨args⟩ : Array Value) ++ Array.replicate (nt - (⟨args⟩ : Array Value).size) undef, defers := [] } := by
  refine ⟨by simp; omega, rfl, fun x v hx => ?_⟩
  cases x with
  | tmp t =>
    obtain ⟨_, h2⟩ := argEnv_spec args 0 t v hx
    have hlt := (List.getElem?_eq_some_iff.1 h2).1
    simp at h2 hlt
    rw [List.getElem?_eq_getElem hlt] at h2
    simp at h2
    simp [Act.eval, Array.getElem?_append, hlt, h2]
  | const c => simpa [ev, Act.eval] using hx
  | global g => simpa [ev, Act.eval] using hx
  | func f => simpa [ev, Act.eval] using hx

/-- A FUNCTION's CONTRACT out of its simplified code. -/
theorem calls_of_swp (hm : P.follows .mixedOrders = true) {f : Nat} {fn : Func} {c : Code} {sc : SCode} {rs : List SRes} {args : List Value} {h : Heap} {R : Ending → Heap → Prop}
    (hf : P.funcs[f]? = some fn) (hb : fn.body = some c) (hok : okFn P f = true) (hc : comp P fn.ntmps c = some sc) (hrs : cres P fn.results.toList = some rs) (ha : args.length ≤ fn.ntmps)
    (hs : swp P sc (retQ rs R) (argEnv 0 args) [] h) : CallsH P f args h R := by
  refine ⟨hok, fun w hw => ?_⟩
  subst hw
  refine (callsIn_wide (n := 0)).1 (callsIn_of_wp_marks hf hb trivial ?_)
  have hrel : Rel (argEnv 0 args) fn.ntmps [] { tmps := (⟨args⟩ : Array Value) ++ Array.replicate (fn.ntmps - (⟨args⟩ : Array Value).size) undef, defers := [] } := by
    refine ⟨by simp; omega, rfl, fun x v hx => ?_⟩
    cases x with
    | tmp t =>
      obtain ⟨_, h2⟩ := argEnv_spec args 0 t v hx
      have hlt := (List.getElem?_eq_some_iff.1 h2).1
      simp at h2 hlt
      rw [List.getElem?_eq_getElem hlt] at h2
      simp at h2
      simp [Act.eval, Array.getElem?_append, hlt, h2]
    | const c => simpa [ev, Act.eval] using hx
    | global g => simpa [ev, Act.eval] using hx
    | func f => simpa [ev, Act.eval] using hx
  refine wpIn_mono (comp_sound hm c sc hc none (.inl rfl) 0 _ _ [] _ w hrel hs) ?_
  rintro e a1 w1 ⟨σ1, ds1, hr1, hb1, hq⟩
  cases e with
  | normal =>
    have := leaves_of (n := 0) (w0 := w) hrs ds1 ds1 .returning a1 w1 hr1 hb1 hq
    rw [← hr1.defers] at this; exact this
  | ret =>
    have := leaves_of (n := 0) (w0 := w) hrs ds1 ds1 .returning a1 w1 hr1 hb1 hq
    rw [← hr1.defers] at this; exact this
  | panic ch =>
    have := leaves_of (n := 0) (w0 := w) hrs ds1 ds1 (.panicking ch) a1 w1 hr1 hb1 hq
    rw [← hr1.defers] at this; exact this
  | exit id => exact hq.elim
  | goto l => exact hq.elim
  | outgrown => exact hq.elim

/-- .. as it is told of each function. -/
def Sound (P : Program) (f nt : Nat) (sc : SCode) (rs : List SRes) : Prop :=
  ∀ {args : List Value} {h : Heap} {R : Ending → Heap → Prop}, args.length ≤ nt → swp P sc (retQ rs R) (argEnv 0 args) [] h → CallsH P f args h R

theorem sound_of (hm : P.follows .mixedOrders = true) {f : Nat} {fn : Func} {c : Code} {sc : SCode} {rs : List SRes}
    (hf : P.funcs[f]? = some fn) (hb : fn.body = some c) (hok : okFn P f = true) (hc : comp P fn.ntmps c = some sc) (hrs : cres P fn.results.toList = some rs) : Sound P f fn.ntmps sc rs :=
  fun ha hs => calls_of_swp hm hf hb hok hc hrs ha hs

/-! ### Deferred calls of functions -/
/-- The contract of a function that is entered as a deferred call: the mode of the frame below is a part of it. -/
def DefH (P : Program) (f : Nat) (args : List Value) (u : FrameMode) (h : Heap) (R : Ending → FrameMode → Heap → Prop) : Prop :=
  okFn P f = true ∧ ∀ w : World, w.heap = h → CallsDIn Fence.wide 0 P f ⟨args⟩ u w fun e u' w' => R e u' w'.heap ∧ e ≠ .outgrown ∧ w'.os = w.os ∧ w'.output = w.output ∧ w'.tape = w.tape

theorem DefH.mono {f : Nat} {args : List Value} {u : FrameMode} {h : Heap} {R R' : Ending → FrameMode → Heap → Prop} (hd : DefH P f args u h R) (hr : ∀ e u' h', R e u' h' → R' e u' h') : DefH P f args u h R' :=
  ⟨hd.1, fun w hw => (hd.2 w hw).mono fun _ _ _ ⟨a, b⟩ => ⟨hr _ _ _ a, b⟩⟩

/-- How a frame leaves that deferred calls of functions. -/
def leaveQD (P : Program) (rs : List SRes) (R : Ending → Heap → Prop) (σ : Env) : List Deferred → FrameMode → Heap → Prop
  | [], .returning, h => resQ σ h rs fun vs => R (.returned (retV vs)) h
  | [], .panicking ch, h => R (.panicked ch) h
  | [], .run, _ => False
  | d :: ds, u, h => u ≠ .run ∧ match d.target with
    | .collected D => h[D]? = some (.deferred (some [])) ∧ ∀ h', PutO h h' D (.deferred none) → leaveQD P rs R σ ds u h'
    | .fn (.func f) cap => DefH P f (d.args.toList ++ cap.toList) u h fun e u' h' => match e with
      | .returned _ => leaveQD P rs R σ ds (settle u') h'
      | .panicked ch => leaveQD P rs R σ ds (raised u' ch) h'
      | .outgrown => False
    | _ => False

def retQD (P : Program) (rs : List SRes) (R : Ending → Heap → Prop) : Post
  | .normal, σ, ds, h | .ret, σ, ds, h => leaveQD P rs R σ ds .returning h
  | .panic ch, σ, ds, h => leaveQD P rs R σ ds (.panicking ch) h
  | _, _, _, _ => False

theorem leavesD_of {fn : Func} {rs : List SRes} {R : Ending → Heap → Prop} {w0 : World} (hc : cres P fn.results.toList = some rs) : ∀ (ds ds' : List Deferred) (u : FrameMode) (a : Act) (w : World), Rel σ nt ds' a → SameB w0 w →
    leaveQD P rs R σ ds u w.heap → LeavesInM Fence.wide 0 P fn a.tmps (fun e w' => R e w'.heap ∧ e ≠ .outgrown ∧ w'.os = w0.os ∧ w'.output = w0.output ∧ w'.tape = w0.tape) ds u w
  | [], ds', .returning, a, w, hr, hb, h => by
    obtain ⟨vs, h1, h2⟩ := run_results hc hr h
    exact ⟨_, h1, h2, by simp, hb⟩
  | [], ds', .panicking ch, a, w, hr, hb, h => ⟨h, by simp, hb⟩
  | [], ds', .run, a, w, hr, hb, h => h.elim
  | d :: ds, ds', u, a, w, hr, hb, h => by
    simp only [leaveQD] at h
    obtain ⟨hu, h⟩ := h
    split at h
    · rename_i D hd
      obtain ⟨h1, h2⟩ := h
      have ht := run_takeDeferred (P := P) (w := w) h1
      have := leavesD_of hc ds ds' u a (w.putObj D (.deferred none)) hr (hb.trans ⟨rfl, rfl, rfl⟩) (h2 _ (putO_of_set h1))
      exact ⟨hu, .inl ⟨D, _, hd, ht, this⟩⟩
    · rename_i f cap hd
      refine ⟨hu, .inr ⟨fun h => by simp [Fence.wide] at h, .func f, cap, f, ⟨d.args.toList ++ cap.toList⟩, hd, ?_, fun _ _ => trivial, (h.2 w rfl).mono ?_⟩⟩
      · have hap : d.args ++ cap = ⟨d.args.toList ++ cap.toList⟩ := by apply Array.ext'; simp
        rw [hd]
        show (callFunc f (d.args ++ cap)).run P w = _
        rw [hap]; exact okFn_call h.1 _ w
      · rintro e u' w' ⟨he, hne, h3⟩
        cases e with
        | returned v => exact leavesD_of hc ds ds' _ a w' hr (hb.trans h3) he
        | panicked ch => exact leavesD_of hc ds ds' _ a w' hr (hb.trans h3) he
        | outgrown => exact absurd rfl hne
    · exact h.elim

theorem callsD_of_swp (hm : P.follows .mixedOrders = true) {f : Nat} {fn : Func} {c : Code} {sc : SCode} {rs : List SRes} {args : List Value} {h : Heap} {R : Ending → Heap → Prop}
    (hf : P.funcs[f]? = some fn) (hb : fn.body = some c) (hok : okFn P f = true) (hc : compC fl P fn.ntmps c = some sc) (hrs : cres P fn.results.toList = some rs) (ha : args.length ≤ fn.ntmps)
    (hs : swp P sc (retQD P rs R) (argEnv 0 args) [] h) : CallsH P f args h R := by
  refine ⟨hok, fun w hw => ?_⟩
  subst hw
  refine (callsIn_wide (n := 0)).1 (callsIn_of_wp_marks hf hb trivial ?_)
  have hrel := rel_enter fn.ntmps args ha
  refine wpIn_mono (comp_sound hm c sc hc none (.inl rfl) 0 _ _ [] _ w hrel hs) ?_
  rintro e a1 w1 ⟨σ1, ds1, hr1, hb1, hq⟩
  cases e with
  | normal =>
    have := leavesD_of (w0 := w) hrs ds1 ds1 .returning a1 w1 hr1 hb1 hq
    rw [← hr1.defers] at this; exact this
  | ret =>
    have := leavesD_of (w0 := w) hrs ds1 ds1 .returning a1 w1 hr1 hb1 hq
    rw [← hr1.defers] at this; exact this
  | panic ch =>
    have := leavesD_of (w0 := w) hrs ds1 ds1 (.panicking ch) a1 w1 hr1 hb1 hq
    rw [← hr1.defers] at this; exact this
  | exit id => exact hq.elim
  | goto l => exact hq.elim
  | outgrown => exact hq.elim

def SoundD (P : Program) (f nt : Nat) (sc : SCode) (rs : List SRes) : Prop :=
  ∀ {args : List Value} {h : Heap} {R : Ending → Heap → Prop}, args.length ≤ nt → swp P sc (retQD P rs R) (argEnv 0 args) [] h → CallsH P f args h R

theorem soundD_of (hm : P.follows .mixedOrders = true) {f : Nat} {fn : Func} {c : Code} {sc : SCode} {rs : List SRes}
    (hf : P.funcs[f]? = some fn) (hb : fn.body = some c) (hok : okFn P f = true) (hc : compC fl P fn.ntmps c = some sc) (hrs : cres P fn.results.toList = some rs) : SoundD P f fn.ntmps sc rs :=
  fun ha hs => callsD_of_swp hm hf hb hok hc hrs ha hs

/-! The deferred function itself. -/
/-- What recover gives, and the mode behind it. -/
def recV : FrameMode → Value
  | .panicking ({ v, recovered := false, goexit := false } :: _) => v
  | _ => .nilIface
def recM : FrameMode → FrameMode
  | .panicking ({ v, recovered := false, goexit := false } :: older) => .panicking ({ v, recovered := true } :: older)
  | u => u

/-- A deferred function's body: what recover does to the mode is told. -/
def swpS (P : Program) : SCode → (FrameMode → Post) → FrameMode → Env → List Deferred → Heap → Prop
  | .rcv d, Q, u, σ, ds, h => Q (recM u) .normal (upd σ d (recV u)) ds h
  | .seq a b, Q, u, σ, ds, h => swpS P a (fun u' e σ' ds' h' => match e with
    | .normal => swpS P b Q u' σ' ds' h'
    | e => Q u' e σ' ds' h') u σ ds h
  | c, Q, u, σ, ds, h => swp P c (Q u) σ ds h

def retF (rs : List SRes) (u : FrameMode) (R : Ending → FrameMode → Heap → Prop) : Post
  | .normal, σ, ds, h | .ret, σ, ds, h => ds = [] ∧ resQ σ h rs fun vs => R (.returned (retV vs)) u h
  | .panic ch, _, ds, h => ds = [] ∧ R (.panicked ch) u h
  | _, _, _, _ => False

theorem wpSIn_mono {F : Fence} {n : Nat} {Q Q' : Exit → Act → List Frame → World → Prop} {c : Code} {a : Act} {cs : List Frame} {w : World} (h : c.wpSIn F n P Q a cs w) (hq : ∀ e a' cs' w', Q e a' cs' w' → Q' e a' cs' w') :
    c.wpSIn F n P Q' a cs w :=
  fun b k hb hr hF hroom => let ⟨e, a', cs', w', l, q, r⟩ := h b k hb hr hF hroom; ⟨e, a', cs', w', l, hq _ _ _ _ q, r⟩

theorem crecover_spec {ops : Array Oper} {s : SCode} (h : crecover nt ops = some s) : ∃ o c, ops = #[o] ∧ o.op = .call c ∧ o.guard = none ∧ c.callee = .builtin .recover ∧ c.args = #[] ∧ (∀ d, o.dst = some d → d < nt) ∧ s = .rcv o.dst := by
  unfold crecover at h
  split at h
  · rename_i o ho
    split at h
    · rename_i c hop hg
      split at h
      · rename_i hcal hargs
        split at h
        · rename_i hd
          simp at h
          refine ⟨o, c, by apply Array.ext'; simpa using ho, hop, hg, hcal, by apply Array.ext'; simpa using hargs, fun d hd' => ?_, h.symm⟩
          rw [hd'] at hd
          exact Nat.le_of_ble_eq_true hd
        · simp at h
      · simp at h
    · simp at h
  · simp at h

theorem recoverD_modes (c₀ : Frame) (cs : List Frame) : (recoverD (c₀ :: cs) = some (recV c₀.mode, { c₀ with mode := recM c₀.mode } :: cs)) ∨ (recoverD (c₀ :: cs) = none ∧ recV c₀.mode = .nilIface ∧ ({ c₀ with mode := recM c₀.mode } : Frame) = c₀) := by
  simp only [recoverD]
  split
  · rename_i v older hm
    left
    rw [hm]; rfl
  · rename_i hm
    right
    refine ⟨rfl, ?_, ?_⟩
    · unfold recV
      split
      · rename_i v older hm'; exact absurd hm' (hm v older)
      · rfl
    · have : recM c₀.mode = c₀.mode := by
        unfold recM
        split
        · rename_i v older hm'; exact absurd hm' (hm v older)
        · rfl
      rw [this]

theorem swpS_sound (hm : P.follows .mixedOrders = true) (cs : List Frame) : ∀ (c : Code) (sc : SCode), compC fl P nt c = some sc →
    ∀ (c₀ : Frame) (Q : FrameMode → Post) (σ : Env) (ds : List Deferred) (a : Act) (w : World), Rel σ nt ds a → swpS P sc Q c₀.mode σ ds w.heap →
    c.wpSIn (FW none) 0 P (fun e a' cs' w' => ∃ u', cs' = { c₀ with mode := u' } :: cs ∧ Lift nt w (Q u') e a' w') a (c₀ :: cs) w := by
  intro c
  have plain : ∀ (sc : SCode), compC fl P nt c = some sc → ∀ (c₀ : Frame) (Q : FrameMode → Post) (σ : Env) (ds : List Deferred) (a : Act) (w : World), Rel σ nt ds a → swp P sc (Q c₀.mode) σ ds w.heap →
      c.wpSIn (FW none) 0 P (fun e a' cs' w' => ∃ u', cs' = { c₀ with mode := u' } :: cs ∧ Lift nt w (Q u') e a' w') a (c₀ :: cs) w := fun sc hc c₀ Q σ ds a w hr h =>
    wpSIn_of_wpIn rfl (wpIn_mono (comp_sound hm c sc hc none (.inl rfl) 0 (Q c₀.mode) σ ds a w hr h) fun e a2 w2 hl => ⟨c₀.mode, rfl, hl⟩)
  induction c with
  | region id ops draw =>
    intro sc hc c₀ Q σ ds a w hr h
    have hc0 := hc
    simp only [compC] at hc
    rcases cregionC_cases hc with ⟨l, rfl, hl⟩ | ⟨rfl, x, rfl, hl⟩ | ⟨rfl, hl⟩ | ⟨rfl, hl⟩ | ⟨rfl, hl⟩
    · exact plain _ hc0 c₀ Q σ ds a w hr h
    · exact plain _ hc0 c₀ Q σ ds a w hr h
    · unfold ctree at hl
      split at hl
      · simp at hl
      · simp only [Option.map_eq_some_iff] at hl
        obtain ⟨x, _, rfl⟩ := hl
        exact plain _ hc0 c₀ Q σ ds a w hr h
    · obtain ⟨o, c, x, l, _, _, _, _, _, _, rfl⟩ := cdefer_spec hl
      exact plain _ hc0 c₀ Q σ ds a w hr h
    · obtain ⟨o, c, rfl, hop, hg, hcal, hargs, hdst, rfl⟩ := crecover_spec hl
      refine wpSIn_region ?_
      have hlist : List.range (#[o] : Array Oper).size = [0] := rfl
      rw [hlist]
      simp only [wpOpsSIn]
      have ho : (#[o] : Array Oper)[0]? = some o := rfl
      simp only [ho]
      refine ⟨fun _ _ => trivial, ?_⟩
      have hw : Region.wanted o (yielded #[o] a.tmps) = true := by simp [Region.wanted, hg]
      have hrun : (execOp a.eval o).run P w = .ok .recover w := by
        simp [execOp, hop, resolve, hcal, hargs, invoke, builtin]
      simp only [hw, if_true, hrun]
      simp only [swpS] at h
      rcases recoverD_modes c₀ cs with hrec | ⟨hrec, hv, hcc⟩
      · simp only [hrec]
        exact ⟨recM c₀.mode, rfl, _, ds, hr.put hdst _, SameB.refl w, h⟩
      · simp only [hrec]
        rw [hv] at h
        exact ⟨recM c₀.mode, by rw [hcc], _, ds, hr.put hdst _, SameB.refl w, h⟩
  | seq x y ihx ihy =>
    intro sc hc c₀ Q σ ds a w hr h
    simp only [compC] at hc
    split at hc
    · rename_i sx sy hx hy
      simp at hc; subst hc
      simp only [swpS] at h
      refine wpSIn_seq (wpSIn_mono (ihx (fun sc hc c₀ Q σ ds a w hr h => wpSIn_of_wpIn rfl (wpIn_mono (comp_sound hm x sc hc none (.inl rfl) 0 (Q c₀.mode) σ ds a w hr h) fun e a2 w2 hl => ⟨c₀.mode, rfl, hl⟩)) sx hx c₀ _ σ ds a w hr h) ?_)
      rintro e a1 cs1 w1 ⟨u', rfl, σ1, ds1, hr1, hb1, hq⟩
      cases e with
      | normal =>
        refine wpSIn_mono (ihy (fun sc hc c₀ Q σ ds a w hr h => wpSIn_of_wpIn rfl (wpIn_mono (comp_sound hm y sc hc none (.inl rfl) 0 (Q c₀.mode) σ ds a w hr h) fun e a2 w2 hl => ⟨c₀.mode, rfl, hl⟩)) sy hy { c₀ with mode := u' } Q σ1 ds1 a1 w1 hr1 hq) ?_
        rintro e a2 cs2 w2 ⟨u2, rfl, hl⟩
        exact ⟨u2, rfl, Lift.trans hb1 hl⟩
      | exit id => exact ⟨u', rfl, σ1, ds1, hr1, hb1, hq⟩
      | goto l => exact ⟨u', rfl, σ1, ds1, hr1, hb1, hq⟩
      | ret => exact ⟨u', rfl, σ1, ds1, hr1, hb1, hq⟩
      | panic ch => exact ⟨u', rfl, σ1, ds1, hr1, hb1, hq⟩
      | outgrown => exact ⟨u', rfl, σ1, ds1, hr1, hb1, hq⟩
    · simp at hc
  | skip => intro sc hc; have hc0 := hc; simp [compC] at hc; subst hc; exact fun c₀ Q σ ds a w hr h => plain _ hc0 c₀ Q σ ds a w hr h
  | label l => intro sc hc; have hc0 := hc; simp [compC] at hc; subst hc; exact fun c₀ Q σ ds a w hr h => plain _ hc0 c₀ Q σ ds a w hr h
  | exit l => intro sc hc; have hc0 := hc; simp [compC] at hc; subst hc; exact fun c₀ Q σ ds a w hr h => plain _ hc0 c₀ Q σ ds a w hr h
  | ret => intro sc hc; have hc0 := hc; simp [compC] at hc; subst hc; exact fun c₀ Q σ ds a w hr h => plain _ hc0 c₀ Q σ ds a w hr h
  | goto l => intro sc hc; have hc0 := hc; simp [compC] at hc; subst hc; exact fun c₀ Q σ ds a w hr h => plain _ hc0 c₀ Q σ ds a w hr h
  | refuse l => intro sc hc; have hc0 := hc; simp [compC] at hc; subst hc; exact fun c₀ Q σ ds a w hr h => plain _ hc0 c₀ Q σ ds a w hr h
  | cond o x y ihx ihy =>
    intro sc hc
    have hc0 := hc
    simp only [compC] at hc
    split at hc
    · simp at hc; subst hc; exact fun c₀ Q σ ds a w hr h => plain _ hc0 c₀ Q σ ds a w hr h
    · simp at hc
  | block id c ih => intro sc hc; have hc0 := hc; simp only [compC, Option.map_eq_some_iff] at hc; obtain ⟨_, _, rfl⟩ := hc; exact fun c₀ Q σ ds a w hr h => plain _ hc0 c₀ Q σ ds a w hr h
  | loop c ih => intro sc hc; have hc0 := hc; simp only [compC, Option.map_eq_some_iff] at hc; obtain ⟨_, _, rfl⟩ := hc; exact fun c₀ Q σ ds a w hr h => plain _ hc0 c₀ Q σ ds a w hr h
  | scope c ih =>
    intro sc hc
    have hc0 := hc
    simp only [compC] at hc
    split at hc
    · split at hc
      · simp at hc; subst hc; exact fun c₀ Q σ ds a w hr h => plain _ hc0 c₀ Q σ ds a w hr h
      · split at hc
        · simp at hc; subst hc; exact fun c₀ Q σ ds a w hr h => plain _ hc0 c₀ Q σ ds a w hr h
        · simp at hc
    · simp at hc
  | rangeFunc g ps x y ihx ihy =>
    intro sc hc
    have hc0 := hc
    simp only [compC] at hc
    split at hc
    · split at hc
      · simp at hc; subst hc; exact fun c₀ Q σ ds a w hr h => plain _ hc0 c₀ Q σ ds a w hr h
      · simp at hc
    · simp at hc

theorem retF_post {fn : Func} {rs : List SRes} {u' : FrameMode} {R : Ending → FrameMode → Heap → Prop} {c₀ : Frame} {cs : List Frame} {w : World} (hrs : cres P fn.results.toList = some rs) {e : Exit} {a : Act} {cs' : List Frame} {w' : World}
    (hcs : cs' = { c₀ with mode := u' } :: cs) (h : Lift nt w (retF rs u' R) e a w') :
    bodyPostS P fn c₀ cs (fun e u' w' => R e u' w'.heap ∧ e ≠ .outgrown ∧ w'.os = w.os ∧ w'.output = w.output ∧ w'.tape = w.tape) e a cs' w' := by
  obtain ⟨σ1, ds1, hr1, hb1, hq⟩ := h
  cases e with
  | normal =>
    obtain ⟨rfl, hq⟩ := hq
    obtain ⟨vs, h1, h2⟩ := run_results hrs hr1 hq
    exact ⟨hr1.defers, u', hcs, _, h1, h2, by simp, hb1⟩
  | ret =>
    obtain ⟨rfl, hq⟩ := hq
    obtain ⟨vs, h1, h2⟩ := run_results hrs hr1 hq
    exact ⟨hr1.defers, u', hcs, _, h1, h2, by simp, hb1⟩
  | panic ch =>
    obtain ⟨rfl, hq⟩ := hq
    exact ⟨hr1.defers, u', hcs, hq, by simp, hb1⟩
  | exit id => exact hq.elim
  | goto l => exact hq.elim
  | outgrown => exact hq.elim

/-- A deferred function's contract out of its code. -/
theorem defH_of_swpS (hm : P.follows .mixedOrders = true) {f : Nat} {fn : Func} {c : Code} {sc : SCode} {rs : List SRes} {args : List Value} {u : FrameMode} {h : Heap} {R : Ending → FrameMode → Heap → Prop}
    (hf : P.funcs[f]? = some fn) (hb : fn.body = some c) (hok : okFn P f = true) (hc : compC fl P fn.ntmps c = some sc) (hrs : cres P fn.results.toList = some rs) (ha : args.length ≤ fn.ntmps)
    (hs : swpS P sc (fun u' => retF rs u' R) u (argEnv 0 args) [] h) : DefH P f args u h R := by
  refine ⟨hok, fun w hw => ?_⟩
  subst hw
  refine callsDIn_of_wpSIn hf hb trivial ?_
  intro c₀ cs hu
  subst hu
  have hrel := rel_enter fn.ntmps args ha
  refine wpSIn_mono (swpS_sound hm cs c sc hc c₀ _ _ [] _ w hrel hs) ?_
  rintro e a' cs' w' ⟨u', h1, h2⟩
  exact retF_post hrs h1 h2

/-- .. as it is told of each. -/
def SoundF (P : Program) (f nt : Nat) (sc : SCode) (rs : List SRes) : Prop :=
  ∀ {args : List Value} {u : FrameMode} {h : Heap} {R : Ending → FrameMode → Heap → Prop}, args.length ≤ nt → swpS P sc (fun u' => retF rs u' R) u (argEnv 0 args) [] h → DefH P f args u h R
theorem soundF_of (hm : P.follows .mixedOrders = true) {f : Nat} {fn : Func} {c : Code} {sc : SCode} {rs : List SRes}
    (hf : P.funcs[f]? = some fn) (hb : fn.body = some c) (hok : okFn P f = true) (hc : compC fl P fn.ntmps c = some sc) (hrs : cres P fn.results.toList = some rs) : SoundF P f fn.ntmps sc rs :=
  fun ha hs => defH_of_swpS hm hf hb hok hc hrs ha hs

/-! Short words for printed code. -/
namespace S
abbrev o (d : Nat) (s : SOp) : SOper := ⟨some d, none, s⟩
abbrev q (s : SOp) : SOper := ⟨none, none, s⟩
abbrev g (d j : Nat) (s : SOp) : SOper := ⟨some d, some (j, true), s⟩
abbrev n (d j : Nat) (s : SOp) : SOper := ⟨some d, some (j, false), s⟩
abbrev t (x : Nat) : Operand := .tmp x
abbrev i (x : Int) : Operand := .const (.int .i64 x)
abbrev b (x : Bool) : Operand := .const (.bool x)
abbrev e : Operand := .const (.string ⟨#[]⟩)
abbrev u (x : Nat) : Operand := .func x
end S

#print axioms calls_of_swp
end Go.Sx
