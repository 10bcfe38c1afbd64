/-
  Regions: the operations of a region that draws its order, done in ours.
-/
import Derived.Test.YtaeabfemedamhaaGreatDoorSxJ
namespace Go.Sx
open Go

variable {P : Program} {σ σ' : Env} {K : Value → Heap → Prop} {Qp : List PanicEntry → Heap → Prop}

theorem cop_sound {o : Oper} {s : SOp} (hs : cop P o = some s) {a : Act} {w : World} (hρ : Knows σ a.eval) (h : sop P σ w.heap K Qp s)
    {ro : Option Nat} {n : Nat} {next : Act → World → Prop} {Q : Exit → Act → World → Prop}
    (hK : ∀ v w', SameB w w' → K v w'.heap → next (a.put o.dst v) w') (hQ : ∀ ch w', SameB w w' → Qp ch w'.heap → Q (.panic ch) a w') :
    o.wpIn (FW ro) n P a w next Q := by
  have key : (∀ c, o.op ≠ .defer c) → Gives P (execOp a.eval o) w K → o.wpIn (FW ro) n P a w next Q := fun hd hg => upon_gives hd hg hK
  cases ho : o.op <;> simp only [cop, ho] at hs <;> first | (simp at hs; done) | skip
  case call c => exact copCall_sound ho hs hρ h hK hQ
  case move x => simp at hs; subst hs; exact key (by simp [ho]) (by simp only [execOp, ho]; exact gives_mv hρ h)
  case assign x => simp at hs; subst hs; exact key (by simp [ho]) (by simp only [execOp, ho]; exact gives_mv hρ h)
  case pick c x y => simp at hs; subst hs; exact key (by simp [ho]) (by simp only [execOp, ho]; exact gives_pick hρ h)
  case alloc t =>
    simp only [Option.map_eq_some_iff] at hs
    obtain ⟨z, hz, rfl⟩ := hs
    cases hb : isBld z.cells.toList with
    | true =>
      rw [hb] at h
      exact key (by simp [ho]) (by simp only [execOp, ho]; exact gives_newT hz h)
    | false =>
      rw [hb] at h
      exact key (by simp [ho]) (by simp only [execOp, ho]; exact gives_new hz h)
  case box t x => simp at hs; subst hs; exact key (by simp [ho]) (by simp only [execOp, ho]; exact gives_box hρ h)
  case build t parts =>
    split at hs
    · rename_i z fs hz hu
      split at hs
      · rename_i qs hq
        simp only [Option.map_eq_some_iff] at hs
        obtain ⟨ps, hp, rfl⟩ := hs
        exact key (by simp [ho]) (by simp only [execOp, ho]; exact gives_build_struct hρ hz hu hq hp h)
      · simp at hs
    · rename_i z n e hz hu
      simp only [Option.map_eq_some_iff] at hs
      obtain ⟨size, hsz, rfl⟩ := hs
      exact key (by simp [ho]) (by simp only [execOp, ho]; exact gives_build_array hρ hz hu hsz h)
    · simp at hs
  case buildSlice t m parts =>
    split at hs
    · rename_i e hu
      split at hs
      · rename_i size hsz
        split at hs
        · rename_i hm
          simp only [Option.map_eq_some_iff] at hs
          obtain ⟨z, hz, rfl⟩ := hs
          exact key (by simp [ho]) (by simp only [execOp, ho]; exact gives_bslice hρ hu hsz hm hz h)
        · simp at hs
      · simp at hs
    · simp at hs
  case load t x =>
    split at hs
    · rename_i m hg hsz
      simp at hs; subst hs
      exact key (by simp [ho]) (by simp only [execOp, ho]; exact gives_ldn hρ hg hsz h)
    · rename_i m hg hsz
      simp at hs; subst hs
      exact key (by simp [ho]) (by simp only [execOp, ho]; exact gives_ld1 hρ hg h)
    · simp at hs
  case store t x v =>
    split at hs
    · split at hs
      · rename_i hm
        simp at hs; subst hs
        exact key (by simp [ho]) (by simp only [execOp, ho]; exact gives_stb hρ hm h)
      · simp at hs
    · simp only [Option.map_eq_some_iff] at hs
      obtain ⟨m, hm, rfl⟩ := hs
      exact key (by simp [ho]) (by simp only [execOp, ho]; exact gives_st hρ hm h)
  case nilCheck x => simp at hs; subst hs; exact key (by simp [ho]) (gives_nilck hρ h o ho)
  case binOp op t x y yt => exact key (by simp [ho]) (by simp only [execOp, ho]; exact copBin_sound hs hρ h)
  case unOp op t x => split at hs <;> simp at hs <;> subst hs <;> exact key (by simp [ho]) (by simp only [execOp, ho]; exact gives_un hρ h)
  case convert src d x =>
    split at hs
    · rename_i k1 k2 hu1 hu2
      simp at hs; subst hs
      exact key (by simp [ho]) (by simp only [execOp, ho]; exact gives_cvt hρ hu1 hu2 h)
    · rename_i hu1 hu2
      simp at hs; subst hs
      exact key (by simp [ho]) (by simp only [execOp, ho]; exact gives_cvs hρ hu1 hu2 h)
    · rename_i e hu1 hu2
      split at hs
      · rename_i hue
        simp at hs; subst hs
        exact key (by simp [ho]) (by simp only [execOp, ho]; exact gives_bstr hρ hu1 hue hu2 h)
      · simp at hs
    · rename_i e hu1 hu2
      split at hs
      · rename_i hue
        simp at hs; subst hs
        exact key (by simp [ho]) (by simp only [execOp, ho]; exact gives_byts hρ hu1 hu2 hue h)
      · simp at hs
    · rename_i e1 e hu1 hu2
      split at hs
      · rename_i hue
        split at hs
        · rename_i hsd
          simp at hs; subst hs; subst hsd
          exact key (by simp [ho]) (by simp only [execOp, ho]; exact gives_cvm (_e' := e1) hρ hu2 hue h)
        · simp at hs
      · simp at hs
    · rename_i t hu1 hu2
      split at hs
      · rename_i m hm
        simp at hs; subst hs
        exact key (by simp [ho]) (by simp only [execOp, ho]; exact gives_p2u hρ hu1 hu2 hm h)
      · simp at hs
    · rename_i t hu1 hu2
      simp only [Option.map_eq_some_iff] at hs
      obtain ⟨m, hm, rfl⟩ := hs
      exact key (by simp [ho]) (by simp only [execOp, ho]; exact gives_u2p hρ hu1 hu2 hm h)
    · simp at hs
  case makeInterface t x =>
    split at hs
    · simp at hs
    · rename_i d hd hu
      simp at hs; subst hs
      exact key (by simp [ho]) (by simp only [execOp, ho]; exact gives_mki hρ hu (by rintro ms rfl; exact hd ms rfl) h)
    · simp at hs
  case makeFunc fn first cap =>
    cases fn <;> simp at hs
    subst hs
    exact key (by simp [ho]) (by simp only [execOp, ho]; exact gives_fn hρ h)
  case makeMap t r =>
    split at hs
    · rename_i hr
      have hr' : r = none ∨ ∃ kk n, r = some (.const (.int kk n)) := by
        unfold okReserve at hr
        split at hr <;> simp at hr ⊢
      split at hs
      · rename_i k e hu
        simp at hs; subst hs
        exact key (by simp [ho]) (by simp only [execOp, ho]; exact gives_mkm hu hr' hρ h)
      · simp at hs
    · simp at hs
  case makeSlice t x y =>
    split at hs
    · rename_i e hu
      split at hs
      · rename_i i hi
        simp only [Option.map_eq_some_iff] at hs
        obtain ⟨z, hz, rfl⟩ := hs
        exact key (by simp [ho]) (by simp only [execOp, ho]; exact gives_mks hρ hu hi hz h)
      · simp at hs
    · simp at hs
  case slice t x lo hi mx =>
    cases mx with
    | some mx =>
      cases hi <;> simp only at hs <;> first | (simp at hs; done) | skip
      split at hs
      · rename_i e hu
        simp only [Option.map_eq_some_iff] at hs
        obtain ⟨m, hm, rfl⟩ := hs
        exact key (by simp [ho]) (by simp only [execOp, ho]; exact gives_slc3 hρ hu hm h)
      · simp at hs
    | none =>
    simp only at hs
    split at hs
    · rename_i hu
      simp at hs; subst hs
      exact key (by simp [ho]) (by simp only [execOp, ho]; exact gives_sls hρ hu h)
    · rename_i e hu
      simp only [Option.map_eq_some_iff] at hs
      obtain ⟨m, hm, rfl⟩ := hs
      exact key (by simp [ho]) (by simp only [execOp, ho]; exact gives_slc hρ hu hm h)
    · rename_i m e hu
      simp only [Option.map_eq_some_iff] at hs
      obtain ⟨s, hs, rfl⟩ := hs
      exact key (by simp [ho]) (by simp only [execOp, ho]; exact gives_slp hρ hu hs h)
    · simp at hs
  case fieldAddr t x f =>
    split at hs
    · rename_i fs hu
      split at hs
      · rename_i fl hf
        split at hs
        · rename_i m hm
          simp at hs; subst hs
          exact key (by simp [ho]) (by simp only [execOp, ho]; exact gives_fa hρ hu hf hm h)
        · simp at hs
      · simp at hs
    · simp at hs
  case field t x f =>
    split at hs
    · rename_i fs hu
      split at hs
      · rename_i fl hf
        split at hs
        · rename_i m hg hm
          simp at hs; subst hs
          exact key (by simp [ho]) (by simp only [execOp, ho]; exact gives_fln hρ hu hf hg hm h)
        · rename_i m hg hm
          simp at hs; subst hs
          exact key (by simp [ho]) (by simp only [execOp, ho]; exact gives_fl1 hρ hu hf hg h)
        · simp at hs
      · simp at hs
    · simp at hs
  case indexAddr t x i =>
    split at hs
    · rename_i m e hu
      simp only [Option.map_eq_some_iff] at hs
      obtain ⟨z, hz, rfl⟩ := hs
      exact key (by simp [ho]) (by simp only [execOp, ho]; exact gives_ixa hρ hu hz h)
    · rename_i e hu
      simp only [Option.map_eq_some_iff] at hs
      obtain ⟨z, hz, rfl⟩ := hs
      exact key (by simp [ho]) (by simp only [execOp, ho]; exact gives_ixs hρ hu hz h)
    · simp at hs
  case index t x i =>
    split at hs
    · rename_i hu
      simp at hs; subst hs
      exact key (by simp [ho]) (by simp only [execOp, ho]; exact gives_ixc hρ hu h)
    · rename_i m e hu
      split at hs
      · rename_i s hg hsz
        simp at hs; subst hs
        exact key (by simp [ho]) (by simp only [execOp, ho]; exact gives_ixv hρ hu hg hsz h)
      · rename_i s hg hsz
        simp at hs; subst hs
        exact key (by simp [ho]) (by simp only [execOp, ho]; exact gives_ixw hρ hu hg hsz h)
      · simp at hs
    · simp at hs
  case lookup t m k ok =>
    split at hs
    · rename_i kt et hu
      split at hs
      · rename_i kd z hk hz
        simp at hs; subst hs
        exact key (by simp [ho]) (by simp only [execOp, ho]; exact gives_look hρ hu hk hz h)
      · simp at hs
    · simp at hs
  case mapUpdate t m k v =>
    split at hs
    · rename_i kt et hu
      simp only [Option.map_eq_some_iff] at hs
      obtain ⟨kd, hk, rfl⟩ := hs
      exact key (by simp [ho]) (by simp only [execOp, ho]; exact gives_mup hρ hu hk h)
    · simp at hs
  case insert t m k v =>
    split at hs
    · rename_i kt et hu
      simp only [Option.map_eq_some_iff] at hs
      obtain ⟨kd, hk, rfl⟩ := hs
      exact key (by simp [ho]) (by simp only [execOp, ho]; exact gives_mup hρ hu hk h)
    · simp at hs
  case extract x i => simp at hs; subst hs; exact key (by simp [ho]) (by simp only [execOp, ho]; exact gives_ext hρ h)
  case panic x =>
    simp at hs; subst hs
    simp only [sop] at h
    split at h
    · rename_i t v hx
      refine ⟨fun _ _ => trivial, ?_⟩
      have hd : ∀ c, o.op ≠ .defer c := by simp [ho]
      have hr : (execOp a.eval o).run P w = .halt (.panic (.iface t v)) w := by
        simp [execOp, ho, hρ x _ hx, Instr.panic, goPanic]
      rw [Oper.semAt_eq _ _ _ hd, hr]
      exact hQ _ w (SameB.refl w) h
    · exact h.elim
  case range t x =>
    split at hs
    · rename_i k e hu
      simp at hs; subst hs
      exact key (by simp [ho]) (by simp only [execOp, ho]; exact gives_rng hρ hu h)
    · rename_i hu
      simp at hs; subst hs
      exact key (by simp [ho]) (by simp only [execOp, ho]; exact gives_rngs hρ hu h)
    · simp at hs
  case next x b =>
    cases b with
    | false =>
      simp at hs; subst hs
      exact key (by simp [ho]) (by simp only [execOp, ho]; exact gives_nxt hρ h)
    | true =>
      simp at hs; subst hs
      exact key (by simp [ho]) (by simp only [execOp, ho]; exact gives_nxts hρ h)
  case entry x => simp at hs; subst hs; exact key (by simp [ho]) (by simp only [execOp, ho]; exact gives_ent hρ h)
  case typeAssert x xt t ok =>
    split at hs
    · simp at hs
    · rename_i d z hd hu hz
      simp at hs; subst hs
      exact key (by simp [ho]) (by simp only [execOp, ho]; exact gives_tas hρ hu (by rintro ms rfl; exact hd ms rfl) hz h)
    · simp at hs

end Go.Sx
