/-
  Operations and regions, soundly: one operation, a list of them, a region that draws its order.
-/
import Derived.Test.YtaeabfemedamhaaGreatDoorSxI
namespace Go.Sx
open Go

variable {P : Program} {σ σ' : Env} {K : Value → Heap → Prop} {Qp : List PanicEntry → Heap → Prop}

/-- The fence that lets everything in, within a round or not. -/
def FW (ro : Option Nat) : Fence := { Fence.wide with round := ro }

theorem callsIn_FW {ro : Option Nat} {n : Nat} {f : FuncId} {args : Array Value} {w : World} {R : Ending → World → Prop} : CallsIn (FW ro) n P f args w R ↔ Calls P f args w R :=
  callsIn_wide (n := n)

theorem okFn_call {f : Nat} (h : okFn P f = true) (args : Array Value) (w : World) : (callFunc f args).run P w = .ok (.enter f args) w := by
  unfold okFn at h
  split at h
  · rename_i fn hf
    simp only [Bool.and_eq_true] at h
    obtain ⟨h1, h2⟩ := h
    have h1' : fn.name ≠ "runtime.NumGoroutine" := by simpa using h1
    have h2' : fn.body ≠ none := by intro e; rw [e] at h2; simp at h2
    simp [callFunc, hf, h1', h2']
  · simp at h

/-- What one operation, whose guard lets it, does to the frame and the world. -/
theorem upon_gives {o : Oper} {a : Act} {w : World} {ro : Option Nat} {n : Nat} {next : Act → World → Prop} {Q : Exit → Act → World → Prop} (hd : ∀ c, o.op ≠ .defer c)
    (hg : Gives P (execOp a.eval o) w K) (hK : ∀ v w', SameB w w' → K v w'.heap → next (a.put o.dst v) w') :
    o.wpIn (FW ro) n P a w next Q := by
  refine ⟨fun _ _ => trivial, ?_⟩
  rw [Oper.semAt_eq _ _ _ hd]
  obtain ⟨v, w', hr, hb, hk⟩ := hg
  rcases hr with hr | ⟨hr, rfl⟩
  · rw [hr]; exact hK v w' hb hk
  · rw [hr]; exact hK undef w' hb hk

theorem upon_calls {o : Oper} {a : Act} {w : World} {ro : Option Nat} {n : Nat} {next : Act → World → Prop} {Q : Exit → Act → World → Prop} (hd : ∀ c, o.op ≠ .defer c)
    {f : Nat} {args : List Value} (hr : (execOp a.eval o).run P w = .ok (.enter f ⟨args⟩) w) (hc : CallsH P f args w.heap (after K Qp))
    (hK : ∀ v w', SameB w w' → K v w'.heap → next (a.put o.dst v) w') (hQ : ∀ ch w', SameB w w' → Qp ch w'.heap → Q (.panic ch) a w') :
    o.wpIn (FW ro) n P a w next Q := by
  refine ⟨fun _ _ => trivial, ?_⟩
  rw [Oper.semAt_eq _ _ _ hd, hr]
  refine ⟨fun h => by simp [FW, Fence.wide] at h, callsIn_FW.2 ((hc.2 w rfl).mono ?_)⟩
  rintro e w' ⟨he, hne, h1, h2, h3⟩
  cases e with
  | returned v => exact hK v w' ⟨h1, h2, h3⟩ he
  | panicked ch => exact hQ ch w' ⟨h1, h2, h3⟩ he
  | outgrown => exact absurd rfl hne

theorem run_call_static {ρ : Operand → Value} (hρ : Knows σ ρ) {o : Oper} {c : Call} {f : Nat} {vs : List Value} (ho : o.op = .call c) (hc : c.callee = .value (.func f)) (hv : evs σ c.args.toList = some vs)
    (hok : okFn P f = true) (w : World) : (execOp ρ o).run P w = .ok (.enter f ⟨vs⟩) w := by
  have ha : c.args.map ρ = ⟨vs⟩ := by apply Array.ext'; simp [hρ.list _ _ hv]
  have hf := hρ (.func f) _ rfl
  simp [execOp, ho, resolve, hc, ha, hf, Deferred.ofValue, invoke, okFn_call hok]

theorem run_call_value {ρ : Operand → Value} (hρ : Knows σ ρ) {o : Oper} {c : Call} {x : Operand} {f : Nat} {fi cap : Array Value} {vs : List Value} (ho : o.op = .call c) (hc : c.callee = .value x)
    (hx : ev σ x = some (.func (.func f) fi cap)) (hv : evs σ c.args.toList = some vs)
    (hok : okFn P f = true) (w : World) : (execOp ρ o).run P w = .ok (.enter f ⟨fi.toList ++ vs ++ cap.toList⟩) w := by
  have ha : c.args.map ρ = ⟨vs⟩ := by apply Array.ext'; simp [hρ.list _ _ hv]
  have hf := hρ x _ hx
  have hap : fi ++ (⟨vs⟩ : Array Value) ++ cap = ⟨fi.toList ++ vs ++ cap.toList⟩ := by apply Array.ext'; simp
  simp [execOp, ho, resolve, hc, ha, hf, Deferred.ofValue, invoke, okFn_call hok, hap]

theorem run_call_yield {ρ : Operand → Value} (hρ : Knows σ ρ) {o : Oper} {c : Call} {x : Operand} {l : Nat} {fi cap : Array Value} {vs : List Value} (ho : o.op = .call c) (hc : c.callee = .value x)
    (hx : ev σ x = some (.func (.yield l) fi cap)) (hv : evs σ c.args.toList = some vs) : execOp ρ o = Instr.yield l ⟨fi.toList ++ vs⟩ := by
  have ha : c.args.map ρ = ⟨vs⟩ := by apply Array.ext'; simp [hρ.list _ _ hv]
  have hf := hρ x _ hx
  have hap : fi ++ (⟨vs⟩ : Array Value) = ⟨fi.toList ++ vs⟩ := by apply Array.ext'; simp
  simp [execOp, ho, resolve, hc, ha, hf, Deferred.ofValue, invoke, hap]

theorem upon_yield {o : Oper} {a : Act} {w : World} {ro : Option Nat} {n : Nat} {next : Act → World → Prop} {Q : Exit → Act → World → Prop} (hd : ∀ c, o.op ≠ .defer c)
    {l : Nat} {args : List Value} (hr : execOp a.eval o = Instr.yield l ⟨args⟩) (hc : YieldH P l args w.heap (after K Qp))
    (hK : ∀ v w', SameB w w' → K v w'.heap → next (a.put o.dst v) w') (hQ : ∀ ch w', SameB w w' → Qp ch w'.heap → Q (.panic ch) a w') :
    o.wpIn (FW ro) n P a w next Q := by
  refine ⟨fun _ _ => trivial, ?_⟩
  obtain ⟨fn, tmps, as, bo, h1, h2⟩ := hc w rfl
  rw [Oper.semAt_eq _ _ _ hd, hr, h1]
  refine ⟨fun h => by simp [FW, Fence.wide] at h, ?_⟩
  have h3 : RoundIn (FW ro) (n - 1) P l fn tmps as bo w fun e w' => after K Qp e w'.heap ∧ e ≠ .outgrown ∧ w'.os = w.os ∧ w'.output = w.output ∧ w'.tape = w.tape :=
    ⟨trivial, fun c cs _ => h2.2 c cs (room_wide _)⟩
  refine h3.mono ?_
  rintro e w' ⟨he, hne, h1, h2, h3⟩
  cases e with
  | returned v => exact hK v w' ⟨h1, h2, h3⟩ he
  | panicked ch => exact hQ ch w' ⟨h1, h2, h3⟩ he
  | outgrown => exact absurd rfl hne

theorem copCall_sound {o : Oper} {c : Call} {s : SOp} (ho : o.op = .call c) (hs : copCall P c = some s) {a : Act} {w : World} (hρ : Knows σ a.eval) (h : sop P σ w.heap K Qp s)
    {ro : Option Nat} {n : Nat} {next : Act → World → Prop} {Q : Exit → Act → World → Prop}
    (hK : ∀ v w', SameB w w' → K v w'.heap → next (a.put o.dst v) w') (hQ : ∀ ch w', SameB w w' → Qp ch w'.heap → Q (.panic ch) a w') :
    o.wpIn (FW ro) n P a w next Q := by
  have hd : ∀ c, o.op ≠ .defer c := by intro c'; rw [ho]; simp
  have bi : ∀ (b : Builtin) (xs : List Operand) (ts : List TypeId), c.callee = .builtin b → c.args.toList = xs → c.argTypes.toList = ts →
      execOp a.eval o = builtin b ⟨ts⟩ o.type (c.args.map fun | .const _ => true | _ => false) ⟨xs.map a.eval⟩ := by
    intro b xs ts hb hx ht
    have h1 : c.args.map a.eval = ⟨xs.map a.eval⟩ := by apply Array.ext'; simp [← hx]
    have h2 : c.argTypes = ⟨ts⟩ := by apply Array.ext'; simp [← ht]
    simp only [execOp, ho, resolve, hb, h1, h2]
    rfl
  unfold copCall at hs
  split at hs
  · rename_i f hc
    split at hs
    · split at hs
      · simp at hs; subst hs
        simp only [sop] at h
        split at h
        · rename_i vs hv
          exact upon_calls hd (run_call_static hρ ho hc hv h.1 w) h hK hQ
        · exact h.elim
      · simp at hs; subst hs
        simp only [sop] at h
        split at h
        · rename_i vs hv
          obtain ⟨v, w', h1, h2, h3, h4, h5⟩ := h w rfl
          have ha : c.args.map a.eval = ⟨vs⟩ := by apply Array.ext'; simp [hρ.list _ _ hv]
          have hf := hρ (.func f) _ rfl
          refine upon_gives hd ⟨v, w', .inl ?_, ⟨h3, h4, h5⟩, h2⟩ hK
          simp [execOp, ho, resolve, hc, ha, hf, Deferred.ofValue, invoke, h1]
        · exact h.elim
    · simp at hs
  · rename_i x _ hc
    simp at hs; subst hs
    simp only [sop] at h
    split at h
    · rename_i f fi cap vs hx hv
      exact upon_calls hd (run_call_value hρ ho hc hx hv h.1 w) h hK hQ
    · rename_i l fi cap vs hx hv
      exact upon_yield hd (run_call_yield hρ ho hc hx hv) h hK hQ
    · exact h.elim
  · simp at hs
  · rename_i hb
    split at hs
    · rename_i x t hx ht
      have e := bi .len [x] [t] hb hx ht
      split at hs
      · rename_i hu
        simp at hs; subst hs
        refine upon_gives hd ?_ hK
        rw [e]; exact gives_lens hρ rfl hu h
      · rename_i e2 hu
        simp at hs; subst hs
        refine upon_gives hd ?_ hK
        rw [e]; exact gives_len hρ rfl hu h
      · rename_i e2 e3 hu
        simp at hs; subst hs
        refine upon_gives hd ?_ hK
        rw [e]; exact gives_lenm hρ rfl hu h
      · simp at hs
    · simp at hs
  · rename_i hb
    split at hs
    · rename_i x y t u hx ht
      have e := bi .append [x, y] [t, u] hb hx ht
      split at hs
      · rename_i e1 hu1 hu2
        split at hs
        · rename_i hby
          simp at hs; subst hs
          refine upon_gives hd ?_ hK
          rw [e]; exact gives_appb hρ hu1 hby hu2 (.inl rfl) h
        · simp at hs
      · rename_i e1 e2 hu1 hu2
        split at hs
        · rename_i hby
          simp at hs; subst hs
          refine upon_gives hd ?_ hK
          rw [e]; exact gives_appb hρ hu1 hby.1 hu2 (.inr ⟨_, rfl⟩) h
        · split at hs
          · rename_i i hi
            split at hs
            · rename_i hby
              simp only [Option.map_eq_some_iff] at hs
              obtain ⟨z, hz, hs⟩ := hs
              split at hs
              · subst hs
                refine upon_gives hd ?_ hK
                rw [e]; exact gives_appn hρ hu1 hu2 hi hby hz h
              · subst hs
                refine upon_gives hd ?_ hK
                rw [e]; exact gives_app hρ hu1 hu2 hi hby hz h
            · simp at hs
          · simp at hs
      · rename_i e1 k2 hu1 hu2
        split at hs
        · rename_i i hi
          split at hs
          · rename_i hby
            simp only [Option.map_eq_some_iff] at hs
            obtain ⟨z, hz, rfl⟩ := hs
            refine upon_gives hd ?_ hK
            rw [e]; exact gives_appz hρ hu1 hu2 hi hby hz h
          · simp at hs
        · simp at hs
      · simp at hs
    · simp at hs
  · rename_i hb
    split at hs
    · rename_i x t hx ht
      have e := bi .cap [x] [t] hb hx ht
      split at hs
      · rename_i e2 hu
        simp at hs; subst hs
        refine upon_gives hd ?_ hK
        rw [e]; exact gives_capc hρ rfl hu h
      · simp at hs
    · simp at hs
  · rename_i hb
    split at hs
    · rename_i x y t u hx ht
      have e := bi .copy [x, y] [t, u] hb hx ht
      split at hs
      · rename_i e1 hu1 hu2
        split at hs
        · rename_i hby
          simp at hs; subst hs
          refine upon_gives hd ?_ hK
          rw [e]; exact gives_cpyb hρ hu1 hby hu2 h
        · simp at hs
      · rename_i e1 e2 hu1 hu2
        split at hs
        · rename_i hby
          simp at hs; subst hs
          refine upon_gives hd ?_ hK
          rw [e]; exact gives_cpyb hρ hu1 hby.1 hu2 h
        · simp only [Option.map_eq_some_iff] at hs
          obtain ⟨z, hz, rfl⟩ := hs
          refine upon_gives hd ?_ hK
          rw [e]; exact gives_cpy hρ hu1 hu2 hz h
      · simp at hs
    · simp at hs
  · rename_i hb
    split at hs
    · rename_i x t hx ht
      have e := bi .clear [x] [t] hb hx ht
      split at hs
      · rename_i e2 hu
        split at hs
        · rename_i i hi
          simp only [Option.map_eq_some_iff] at hs
          obtain ⟨z, hz, rfl⟩ := hs
          refine upon_gives hd ?_ hK
          rw [e]; exact gives_clr hρ rfl hu hz h
        · simp at hs
      · rename_i k2 e2 hu
        simp at hs; subst hs
        refine upon_gives hd ?_ hK
        rw [e]; exact gives_clrm hρ rfl hu h
      · simp at hs
    · simp at hs
  · rename_i hb
    split at hs
    · rename_i x y t u hx ht
      have e := bi .delete [x, y] [t, u] hb hx ht
      split at hs
      · rename_i k e2 hu
        simp only [Option.map_eq_some_iff] at hs
        obtain ⟨kd, hk, rfl⟩ := hs
        refine upon_gives hd ?_ hK
        rw [e]; exact gives_mdel hρ hu hk h
      · simp at hs
    · simp at hs
  · rename_i hb
    split at hs
    · rename_i x t hx ht
      have e := bi .unsafeSliceData [x] [t] hb hx ht
      simp at hs; subst hs
      refine upon_gives hd ?_ hK
      rw [e]; exact gives_sld hρ h
    · simp at hs
  · rename_i hb
    split at hs
    · rename_i x y t u hx ht
      have e := bi .unsafeString [x, y] [t, u] hb hx ht
      split at hs
      · rename_i e2 hu
        split at hs
        · rename_i hby
          simp at hs; subst hs
          refine upon_gives hd ?_ hK
          rw [e]; exact gives_ust hρ hu hby.2 h
        · simp at hs
      · simp at hs
    · simp at hs
  · rename_i hb
    split at hs
    · rename_i x y t u hx ht
      have e := bi .min [x, y] [t, u] hb hx ht
      split at hs
      · simp at hs; subst hs
        refine upon_gives hd ?_ hK
        rw [e]; exact gives_mn hρ h
      · simp at hs
    · simp at hs
  · rename_i hb
    split at hs
    · rename_i x y t u hx ht
      have e := bi .max [x, y] [t, u] hb hx ht
      split at hs
      · simp at hs; subst hs
        refine upon_gives hd ?_ hK
        rw [e]; exact gives_mx hρ h
      · simp at hs
    · simp at hs
  · simp at hs

theorem copBin_sound {op : BinOp} {t : TypeId} {x y : Operand} {s : SOp} (hs : copBin P op t x y = some s) {ρ : Operand → Value} {w : World} (hρ : Knows σ ρ) (h : sop P σ w.heap K Qp s) :
    Gives P (binSem op t x y (ρ x) (ρ y)) w K := by
  have nilr : ∀ (neg : Bool) {kd : Nat} {d : TypeDesc} {s : SOp}, (op = .eql ∧ neg = false) ∨ (op = .neq ∧ neg = true) → P.underlying t = some d → nilType kd d → eqNil kd neg x y = some s →
      sop P σ w.heap K Qp s → Gives P (binSem op t x y (ρ x) (ρ y)) w K := fun neg kd d s hop hu hd he h => gives_eqn hop hρ hu hd he h
  have eqs : ∀ (neg : Bool), (op = .eql ∧ neg = false) ∨ (op = .neq ∧ neg = true) → (match kdOf P t with
      | some .bool => some (.cmpb neg x y)
      | some _ => some (.cmp op x y)
      | none => match P.underlying t with
        | some (.pointer e) => match eqNil 0 neg x y with
          | some r => some r
          | none => match szOf P e with
            | some (_ + 1) => some (.eqp neg x y)
            | _ => none
        | some (.slice _) => eqNil 1 neg x y
        | some (.map _ _) => eqNil 2 neg x y
        | some (.func _ _ _) => eqNil 3 neg x y
        | some (.interface _) => match eqNil 4 neg x y with
          | some r => some r
          | none => some (.eqi neg x y)
        | some (.struct fs) => if P.stoodInHeld t = false ∧ P.eqGuardType P.depth t = false then (kindsOf P 0 fs.toList).map fun ks => SOp.eqa neg ks x y else none
        | _ => none) = some s → Gives P (binSem op t x y (ρ x) (ρ y)) w K := by
    intro neg hop he
    split at he
    · rename_i hk
      simp at he; subst he
      exact gives_cmpb hop hk hρ h
    · simp at he; subst he
      exact gives_cmp hρ h
    · split at he
      · rename_i e hu
        split at he
        · rename_i r hr
          simp at he; subst he
          exact nilr neg (kd := 0) hop hu ⟨_, rfl⟩ hr h
        · split at he
          · rename_i n hn
            simp at he; subst he
            exact gives_eqp hop hρ hu hn h
          · simp at he
      · rename_i e hu; exact nilr neg (kd := 1) hop hu ⟨_, rfl⟩ he h
      · rename_i e e2 hu; exact nilr neg (kd := 2) hop hu ⟨_, _, rfl⟩ he h
      · rename_i e e2 e3 hu; exact nilr neg (kd := 3) hop hu ⟨_, _, _, rfl⟩ he h
      · rename_i e hu
        split at he
        · rename_i r hr
          simp at he; subst he
          exact nilr neg (kd := 4) hop hu ⟨_, rfl⟩ hr h
        · simp at he; subst he
          exact gives_eqi hop hρ hu h
      · rename_i fs hu
        split at he
        · rename_i hc
          simp only [Option.map_eq_some_iff] at he
          obtain ⟨ks, hks, rfl⟩ := he
          exact gives_eqa hop hρ hu hc.1 hc.2 hks h
        · simp at he
      · simp at he
  cases op <;> simp only [copBin] at hs
  case eql => exact eqs false (.inl ⟨rfl, rfl⟩) hs
  case neq => exact eqs true (.inr ⟨rfl, rfl⟩) hs
  case add =>
    split at hs
    · simp at hs; subst hs; exact gives_ar (.inl rfl) hρ h
    · simp at hs; subst hs; exact gives_cat hρ h
    · simp at hs
  case sub => split at hs <;> simp at hs; subst hs; exact gives_ar (.inr (.inl rfl)) hρ h
  case mul => split at hs <;> simp at hs; subst hs; exact gives_ar (.inr (.inr rfl)) hρ h
  case and => split at hs <;> simp at hs; subst hs; exact gives_bit (.inl rfl) hρ h
  case or => split at hs <;> simp at hs; subst hs; exact gives_bit (.inr (.inl rfl)) hρ h
  case xor => split at hs <;> simp at hs; subst hs; exact gives_bit (.inr (.inr (.inl rfl))) hρ h
  case andNot => split at hs <;> simp at hs; subst hs; exact gives_bit (.inr (.inr (.inr rfl))) hρ h
  case quo => split at hs <;> simp at hs; subst hs; exact gives_quo hρ h
  case rem => split at hs <;> simp at hs; subst hs; exact gives_rem hρ h
  case lss => split at hs <;> simp at hs <;> subst hs <;> exact gives_cmp hρ h
  case leq => split at hs <;> simp at hs <;> subst hs <;> exact gives_cmp hρ h
  case gtr => split at hs <;> simp at hs <;> subst hs <;> exact gives_cmp hρ h
  case geq => split at hs <;> simp at hs <;> subst hs <;> exact gives_cmp hρ h
  case shl =>
    split at hs
    · rename_i k k2 n hk
      split at hs
      · rename_i hn
        simp at hs; subst hs
        have := gives_sh (op := .shl) (t := t) (x := x) (k2 := k2) (w := w) (P := P) (K := K) (Qp := Qp) (.inl rfl) hn.1 hn.2 hρ h
        rw [hρ (.const (.int k2 n)) _ rfl]; exact this
      · simp at hs
    · simp at hs; subst hs
      exact gives_shv (op := .shl) (.inl rfl) hρ h
    · simp at hs
  case shr =>
    split at hs
    · rename_i k k2 n hk
      split at hs
      · rename_i hn
        simp at hs; subst hs
        have := gives_sh (op := .shr) (t := t) (x := x) (k2 := k2) (w := w) (P := P) (K := K) (Qp := Qp) (.inr rfl) hn.1 hn.2 hρ h
        rw [hρ (.const (.int k2 n)) _ rfl]; exact this
      · simp at hs
    · simp at hs; subst hs
      exact gives_shv (op := .shr) (.inr rfl) hρ h
    · simp at hs

end Go.Sx
