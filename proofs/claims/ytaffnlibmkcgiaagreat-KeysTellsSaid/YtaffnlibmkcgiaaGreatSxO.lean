/-
  A function's contract out of its simplified code.
-/
import Derived.Test.YtaffnlibmkcgiaaGreatSxN
namespace Go.Sx
open Go

variable {P : Program} {σ : Env} {nt : Nat} {ds : List Deferred}

/-- What the results hold. -/
def resQ (σ : Env) (h : Heap) : List SRes → (List Value → Prop) → Prop
  | [], K => K []
  | .t n :: r, K => match σ n with
    | some v => resQ σ h r fun vs => K (v :: vs)
    | none => False
  | .c1 a :: r, K => match σ a with
    | some (.pointer (some ⟨b, o, none⟩)) => ∃ v, cell h b o = some v ∧ resQ σ h r fun vs => K (v :: vs)
    | _ => False
  | .cn a n :: r, K => match σ a with
    | some (.pointer (some ⟨b, o, none⟩)) => ∃ vs, vs.length = n ∧ Cells h b o vs ∧ resQ σ h r fun us => K (.agg ⟨vs⟩ :: us)
    | _ => False

def retV : List Value → Value
  | [v] => v
  | vs => .tuple ⟨vs⟩

/-- How a frame leaves: the marks of its ranges over functions are shut. -/
def leaveQ (rs : List SRes) (R : Ending → Heap → Prop) (σ : Env) : List Deferred → FrameMode → Heap → Prop
  | [], .returning, h => resQ σ h rs fun vs => R (.returned (retV vs)) h
  | [], .panicking ch, h => R (.panicked ch) h
  | [], .run, _ => False
  | d :: ds, u, h => match d.target with
    | .collected D => h[D]? = some (.deferred (some [])) ∧ ∀ h', PutO h h' D (.deferred none) → leaveQ rs R σ ds u h'
    | _ => False

def retQ (rs : List SRes) (R : Ending → Heap → Prop) : Post
  | .normal, σ, ds, h | .ret, σ, ds, h => leaveQ rs R σ ds .returning h
  | .panic ch, σ, ds, h => leaveQ rs R σ ds (.panicking ch) h
  | _, _, _, _ => False

def argEnv : Nat → List Value → Env
  | _, [] => fun _ => none
  | n, v :: vs => upd (argEnv (n + 1) vs) (some n) v

def resSem (tmps : Array Value) : ResultVar → Sem Value
  | .tmp t => pure (tmps.getD t undef)
  | .cell a t => do loadVar t (← asAddr (tmps.getD a undef))

theorem results_eq (fn : Func) (tmps : Array Value) : results fn tmps = (do let vs ← fn.results.mapM (resSem tmps); pure (if h : vs.size = 1 then vs[0] else .tuple vs)) := by
  have e : (fun x => match x with
    | ResultVar.tmp t => (pure (tmps.getD t undef) : Sem Value)
    | ResultVar.cell a t => do loadVar t (← asAddr (tmps.getD a undef))) = resSem tmps := by
    funext x; cases x <;> rfl
  unfold results
  rw [← e]
  rfl

theorem run_asAddr (a : Addr) (w : World) : (asAddr (.pointer (some a))).run P w = .ok a w := rfl

theorem resQ_run {ro : Unit} : ∀ (rv : List ResultVar) (rs : List SRes) (K : List Value → Prop) (a : Act) (w : World), cres P rv = some rs → Rel σ nt ds a → resQ σ w.heap rs K →
    ∃ vs, (rv.mapM (resSem a.tmps)).run P w = .ok vs w ∧ vs.length = rv.length ∧ K vs
  | [], rs, K, a, w, hc, hr, h => by
    simp [cres] at hc; subst hc
    exact ⟨[], by simp, rfl, h⟩
  | .tmp n :: rv, rs, K, a, w, hc, hr, h => by
    simp only [cres, Option.map_eq_some_iff] at hc
    obtain ⟨r, hr0, rfl⟩ := hc
    simp only [resQ] at h
    split at h
    · rename_i v hv
      obtain ⟨vs, h1, h2, h3⟩ := resQ_run (ro := ro) rv r _ a w hr0 hr h
      have hk := hr.knows (.tmp n) v hv
      simp only [Act.eval] at hk
      refine ⟨v :: vs, ?_, by simp [h2], h3⟩
      simp only [List.mapM_cons, resSem, Sem.run_bind, Sem.run_pure, Result.andThen_ok, h1, hk]
    · exact h.elim
  | .cell x t :: rv, rs, K, a, w, hc, hr, h => by
    simp only [cres] at hc
    split at hc
    · rename_i n l hg hs hl
      simp at hc; subst hc
      simp only [resQ] at h
      split at h
      · rename_i b o hx
        obtain ⟨us, hn, hcs, h⟩ := h
        obtain ⟨vs, h1, h2, h3⟩ := resQ_run (ro := ro) rv l _ a w hl hr h
        have hk := hr.knows (.tmp x) _ hx
        simp only [Act.eval] at hk
        have hld := run_loadAtN (P := P) hg hs hn w rfl hcs
        have hld' : (loadVar t ⟨b, o, none⟩).run P w = .ok (.agg ⟨us⟩) w := by simpa [Instr.loadAt, Instr.sureAddr] using hld
        refine ⟨.agg ⟨us⟩ :: vs, ?_, by simp [h2], h3⟩
        simp only [List.mapM_cons, resSem, Sem.run_bind, Sem.run_pure, Result.andThen_ok, h1, hk, run_asAddr, hld']
      · exact h.elim
    · rename_i n l hg hs hl
      simp at hc; subst hc
      simp only [resQ] at h
      split at h
      · rename_i b o hx
        obtain ⟨u, hcs, h⟩ := h
        obtain ⟨vs, h1, h2, h3⟩ := resQ_run (ro := ro) rv l _ a w hl hr h
        have hk := hr.knows (.tmp x) _ hx
        simp only [Act.eval] at hk
        have hld := run_loadAt1 (P := P) hg w rfl hcs
        have hld' : (loadVar t ⟨b, o, none⟩).run P w = .ok u w := by simpa [Instr.loadAt, Instr.sureAddr] using hld
        refine ⟨u :: vs, ?_, by simp [h2], h3⟩
        simp only [List.mapM_cons, resSem, Sem.run_bind, Sem.run_pure, Result.andThen_ok, h1, hk, run_asAddr, hld']
      · exact h.elim
    · simp at hc

theorem run_results {fn : Func} {rs : List SRes} {K : List Value → Prop} {a : Act} {w : World} (hc : cres P fn.results.toList = some rs) (hr : Rel σ nt ds a) (h : resQ σ w.heap rs K) :
    ∃ vs, (results fn a.tmps).run P w = .ok (retV vs) w ∧ K vs := by
  obtain ⟨vs, h1, h2, h3⟩ := resQ_run (P := P) (ro := ()) fn.results.toList rs K a w hc hr h
  refine ⟨vs, ?_, h3⟩
  have e := Array.mapM_eq_mapM_toList (m := Sem) (f := resSem a.tmps) (xs := fn.results)
  rw [results_eq, Sem.run_bind, e, Sem.run_map, h1]
  simp only [Result.andThen_ok, Sem.run_pure]
  cases vs with
  | nil => rfl
  | cons v vs => cases vs <;> rfl

theorem leaves_of {fn : Func} {rs : List SRes} {R : Ending → Heap → Prop} {w0 : World} (hc : cres P fn.results.toList = some rs) {n : Nat} : ∀ (ds ds' : List Deferred) (u : FrameMode) (a : Act) (w : World), Rel σ nt ds' a → SameB w0 w →
    leaveQ rs R σ ds u w.heap → LeavesInM Fence.wide n P fn a.tmps (fun e w' => R e w'.heap ∧ e ≠ .outgrown ∧ w'.os = w0.os ∧ w'.output = w0.output ∧ w'.tape = w0.tape) ds u w
  | [], ds', .returning, a, w, hr, hb, h => by
    obtain ⟨vs, h1, h2⟩ := run_results hc hr h
    exact ⟨_, h1, h2, by simp, hb⟩
  | [], ds', .panicking ch, a, w, hr, hb, h => ⟨h, by simp, hb⟩
  | [], ds', .run, a, w, hr, hb, h => h.elim
  | d :: ds, ds', u, a, w, hr, hb, h => by
    simp only [leaveQ] at h
    split at h
    · rename_i D hd
      obtain ⟨h1, h2⟩ := h
      have ht := run_takeDeferred (P := P) (w := w) h1
      have := leaves_of (n := n) hc ds ds' u a (w.putObj D (.deferred none)) hr (hb.trans ⟨rfl, rfl, rfl⟩) (h2 _ (putO_of_set h1))
      have hu : u ≠ .run := by
        rintro rfl
        clear ht h2 h1
        induction ds generalizing w with
        | nil => simp [LeavesInM, LeavesIn] at this
        | cons d ds ih => exact absurd rfl this.1
      exact ⟨hu, .inl ⟨D, _, hd, ht, this⟩⟩
    · exact h.elim

theorem argEnv_spec : ∀ (args : List Value) (n t : Nat) (v : Value), argEnv n args t = some v → n ≤ t ∧ args[t - n]? = some v
  | [], n, t, v, h => by simp [argEnv] at h
  | x :: args, n, t, v, h => by
    by_cases ht : t = n
    · subst ht
      simp [argEnv, upd] at h
      simp [h]
    · have : argEnv (n + 1) args t = some v := by
        rw [← h]; exact (upd_ne (by intro e; exact ht (by simpa using e.symm))).symm
      obtain ⟨h1, h2⟩ := argEnv_spec args (n + 1) t v this
      refine ⟨by omega, ?_⟩
      have e : t - n = (t - (n + 1)) + 1 := by omega
      rw [e, List.getElem?_cons_succ]; exact h2

/-- A FUNCTION's CONTRACT out of its simplified code. -/
theorem calls_of_swp (hm : P.follows .mixedOrders = true) {f : Nat} {fn : Func} {c : Code} {sc : SCode} {rs : List SRes} {args : List Value} {h : Heap} {R : Ending → Heap → Prop}
    (hf : P.funcs[f]? = some fn) (hb : fn.body = some c) (hok : okFn P f = true) (hc : comp P fn.ntmps c = some sc) (hrs : cres P fn.results.toList = some rs) (ha : args.length ≤ fn.ntmps)
    (hs : swp P sc (retQ rs R) (argEnv 0 args) [] h) : CallsH P f args h R := by
  refine ⟨hok, fun w hw => ?_⟩
  subst hw
  refine (callsIn_wide (n := 0)).1 (callsIn_of_wp_marks hf hb trivial ?_)
  have hrel : Rel (argEnv 0 args) fn.ntmps [] { tmps := (⟨args⟩ : Array Value) ++ Array.replicate (fn.ntmps - (⟨args⟩ : Array Value).size) undef, defers := [] } := by
    refine ⟨by simp; omega, rfl, fun x v hx => ?_⟩
    cases x with
    | tmp t =>
      obtain ⟨_, h2⟩ := argEnv_spec args 0 t v hx
      have hlt := (List.getElem?_eq_some_iff.1 h2).1
      simp at h2 hlt
      rw [List.getElem?_eq_getElem hlt] at h2
      simp at h2
      simp [Act.eval, Array.getElem?_append, hlt, h2]
    | const c => simpa [ev, Act.eval] using hx
    | global g => simpa [ev, Act.eval] using hx
    | func f => simpa [ev, Act.eval] using hx
  refine wpIn_mono (comp_sound hm c sc hc none (.inl rfl) 0 _ _ [] _ w hrel hs) ?_
  rintro e a1 w1 ⟨σ1, ds1, hr1, hb1, hq⟩
  cases e with
  | normal =>
    have := leaves_of (n := 0) (w0 := w) hrs ds1 ds1 .returning a1 w1 hr1 hb1 hq
    rw [← hr1.defers] at this; exact this
  | ret =>
    have := leaves_of (n := 0) (w0 := w) hrs ds1 ds1 .returning a1 w1 hr1 hb1 hq
    rw [← hr1.defers] at this; exact this
  | panic ch =>
    have := leaves_of (n := 0) (w0 := w) hrs ds1 ds1 (.panicking ch) a1 w1 hr1 hb1 hq
    rw [← hr1.defers] at this; exact this
  | exit id => exact hq.elim
  | goto l => exact hq.elim
  | outgrown => exact hq.elim

/-- .. as it is told of each function. -/
def Sound (P : Program) (f nt : Nat) (sc : SCode) (rs : List SRes) : Prop :=
  ∀ {args : List Value} {h : Heap} {R : Ending → Heap → Prop}, args.length ≤ nt → swp P sc (retQ rs R) (argEnv 0 args) [] h → CallsH P f args h R

theorem sound_of (hm : P.follows .mixedOrders = true) {f : Nat} {fn : Func} {c : Code} {sc : SCode} {rs : List SRes}
    (hf : P.funcs[f]? = some fn) (hb : fn.body = some c) (hok : okFn P f = true) (hc : comp P fn.ntmps c = some sc) (hrs : cres P fn.results.toList = some rs) : Sound P f fn.ntmps sc rs :=
  fun ha hs => calls_of_swp hm hf hb hok hc hrs ha hs

/-! Short words for printed code. -/
namespace S
abbrev o (d : Nat) (s : SOp) : SOper := ⟨some d, none, s⟩
abbrev q (s : SOp) : SOper := ⟨none, none, s⟩
abbrev g (d j : Nat) (s : SOp) : SOper := ⟨some d, some (j, true), s⟩
abbrev n (d j : Nat) (s : SOp) : SOper := ⟨some d, some (j, false), s⟩
abbrev t (x : Nat) : Operand := .tmp x
abbrev i (x : Int) : Operand := .const (.int .i64 x)
abbrev b (x : Bool) : Operand := .const (.bool x)
abbrev e : Operand := .const (.string ⟨#[]⟩)
abbrev u (x : Nat) : Operand := .func x
end S

#print axioms calls_of_swp
end Go.Sx
