/-
  The predicate transformer over the simplified code, and that it is sound.
-/
import Derived.Test.YtaeabfemedamhaaGreatDoorSxL
import Derived.RangeFuncBox
import Derived.RangeFuncLeaves
namespace Go.Sx
open Go

/-- What is known whichever of the operations are done. -/
def hide (l : List SOper) (σ : Env) : Env := fun t => bif hasN t (dstsOf l) then none else σ t

def hideN (l : List Nat) (σ : Env) : Env := fun t => bif hasN t l then none else σ t

/-- What is known of some slots. -/
def mk : List (Nat × Value) → Env
  | [] => fun _ => none
  | (n, v) :: r => upd (mk r) (some n) v

def SubL (σ : Env) : List (Nat × Value) → Prop
  | [] => True
  | (n, v) :: r => σ n = some v ∧ SubL σ r

theorem sub_mk {σ : Env} : ∀ {l : List (Nat × Value)}, SubL σ l → Sub (mk l) σ
  | [], _ => fun t v h => by simp [mk] at h
  | (n, u) :: r, ⟨h1, h2⟩ => fun t v h => by
    by_cases ht : t = n
    · subst ht
      simp [mk, upd] at h
      rw [h1, h]
    · refine sub_mk h2 t v ?_
      rw [← h]; exact (upd_ne (by intro e; exact ht (by simpa using e.symm))).symm

abbrev Post := Exit → Env → List Deferred → Heap → Prop

def thenQ (next : Env → List Deferred → Heap → Prop) (Q : Post) : Post
  | .normal, σ, ds, h => next σ ds h
  | e, σ, ds, h => Q e σ ds h

def blockQ (id : Nat) (Q : Post) : Post
  | .exit id', σ, ds, h => if id' = id then Q .normal σ ds h else Q (.exit id') σ ds h
  | e, σ, ds, h => Q e σ ds h

def scopeQ (Q : Post) : Post
  | .goto _, _, _, _ => False
  | e, σ, ds, h => Q e σ ds h

/-- A jump to a label of the scope's own. -/
def jumpQ (l : Nat) (next : Env → List Deferred → Heap → Prop) (Q : Post) : Post
  | .goto l', σ, ds, h => l' = l ∧ next σ ds h
  | e, σ, ds, h => Q e σ ds h

def updL (σ : Env) : List Nat → List Value → Env
  | p :: ps, v :: vs => updL (upd σ (some p) v) ps vs
  | _, _ => σ

/-- What a loop's record says of itself, as far as a walk looks at it. -/
structure LoopB (h : Heap) (l : Nat) (r : Loop) (st : LoopState) (p : Option Code) : Prop where
  at_ : h[l]? = some (.loop { r with state := st, pending := p })

/-- The heap with a loop's record turned. -/
structure Turn (h h' : Heap) (l : Nat) (r : Loop) (st : LoopState) (p : Option Code) : Prop where
  rec_ : LoopB h' l r st p
  size : h'.size = h.size
  old : ∀ k, k ≠ l → h'[k]? = h[k]?

/-- How a round is left. -/
def roundQ (l : Nat) (r : Loop) (R : Ending → Heap → Prop) : Post
  | .normal, _, _, h => LoopB h l r .busy none ∧ ∀ h', Turn h h' l r .ready none → R (.returned (.bool true)) h'
  | .ret, _, _, h => LoopB h l r .busy none ∧ ∀ h', Turn h h' l r .done (some .ret) → R (.returned (.bool false)) h'
  | .exit id, _, _, h => LoopB h l r .busy none ∧ ∀ h', Turn h h' l r .done (some (.exit id)) → R (.returned (.bool false)) h'
  | _, _, _, _ => False

/-- What stands behind a range over a function. -/
def endQ (l D : Nat) (r : Loop) (Q : Post) (σ : Env) (ds : List Deferred) : Ending → Heap → Prop
  | .returned _, h => ∃ st p, LoopB h l r st p ∧ st ≠ .busy ∧ ∀ h', Turn h h' l r .exhausted p →
    match p with
    | none => Q .normal σ ({ target := .collected D, args := #[] } :: ds) h'
    | some .ret => Q .ret σ ({ target := .collected D, args := #[] } :: ds) h'
    | some (.exit id) => Q (.exit id) σ ({ target := .collected D, args := #[] } :: ds) h'
    | _ => False
  | _, _ => False

/-- Done once more, an operation changes nothing. -/
def chkOp (P : Program) (σ : Env) (h : Heap) (x : SOper) : Prop := sopr P σ h x (fun σ' h' => h' = h ∧ σ' = σ) (fun _ _ => False)

def stree (P : Program) (Qp : List PanicEntry → Heap → Prop) (K : Env → Heap → Prop) : OTree → Env → Heap → Prop
  | .done, σ, h => K σ h
  | .one s t, σ, h => sopr P σ h s (stree P Qp K t) Qp
  | .both a b, σ, h => stree P Qp K a σ h ∧ stree P Qp K b σ h
  | .chk l t, σ, h => (∀ x ∈ l, cls x.op ≤ 1 ∧ chkOp P σ h x) ∧ stree P Qp K t σ h

def swp (P : Program) : SCode → Post → Env → List Deferred → Heap → Prop
  | .skip, Q, σ, ds, h => Q .normal σ ds h
  | .ops l, Q, σ, ds, h => sops P (fun ch h' => Q (.panic ch) (hide l σ) ds h') (fun σ' h' => Q .normal σ' ds h') l σ h
  | .two pre l1 l2, Q, σ, ds, h =>
    let Qp : List PanicEntry → Heap → Prop := fun ch h' => Q (.panic ch) (hide (pre ++ (l1 ++ l2)) σ) ds h'
    sops P Qp (fun σ1 h1 => sops P Qp (fun σ' h' => Q .normal σ' ds h') l1 σ1 h1 ∧ sops P Qp (fun σ' h' => Q .normal σ' ds h') l2 σ1 h1) pre σ h
  | .seq a b, Q, σ, ds, h => swp P a (thenQ (swp P b Q) Q) σ ds h
  | .cond c a b, Q, σ, ds, h => match ev σ c with
    | some (.bool true) => swp P a Q σ ds h
    | some (.bool false) => swp P b Q σ ds h
    | _ => False
  | .block id c, Q, σ, ds, h => swp P c (blockQ id Q) σ ds h
  | .loop c, Q, σ, ds, h => ∃ (ι : Type) (E : ι → List (Nat × Value)) (I : ι → Heap → Prop) (μ : ι → Nat) (i : ι), SubL σ (E i) ∧ I i h ∧
    ∀ i h, I i h → swp P c (thenQ (fun σ' ds' h' => ds' = ds ∧ ∃ i', SubL σ' (E i') ∧ I i' h' ∧ μ i' < μ i) Q) (mk (E i)) ds h
  | .scope c, Q, σ, ds, h => swp P c (scopeQ Q) σ ds h
  | .exit id, Q, σ, ds, h => Q (.exit id) σ ds h
  | .ret, Q, σ, ds, h => Q .ret σ ds h
  | .rangeF g ps a b, Q, σ, ds, h => match ev σ g with
    | some (.func (.func f) fi cap) => ∀ (l D : Nat) (r : Loop) (h1 : Heap), D = h.size → l = h.size + 1 → h1.size = h.size + 2 → (∀ k, k < h.size → h1[k]? = h[k]?) →
      h1[D]? = some (.deferred (some [])) → LoopB h1 l r .ready none →
      (∀ (h2 : Heap) (args : List Value) (R : Ending → Heap → Prop), LoopB h2 l r .ready none → args.length = ps.length →
        swp P a (thenQ (fun σ' ds' h3 => LoopB h3 l r .ready none ∧ ∀ h4, Turn h3 h4 l r .busy none → swp P b (roundQ l r R) σ' ds' h4) (fun _ _ _ _ => False)) (updL σ ps args) [] h2 → YieldH P l args h2 R) →
      CallsH P f (fi.toList ++ [.func (.yield l) #[] #[]] ++ cap.toList) h1 (endQ l D r Q σ ds)
    | _ => False
  | .dfr l d x args, Q, σ, ds, h => sops P (fun ch h' => Q (.panic ch) (hide l σ) ds h') (fun σ' h' => match ev σ' x, evs σ' args with
    | some (.func (.func f) fi cap), some vs => Q .normal (upd σ' d undef) ({ target := .fn (.func f) cap, args := ⟨fi.toList ++ vs⟩ } :: ds) h'
    | _, _ => False) l σ h
  | .rcv _, _, _, _, _ => False
  | .label _, Q, σ, ds, h => Q .normal σ ds h
  | .goto l, Q, σ, ds, h => Q (.goto l) σ ds h
  | .scopeG c l r, Q, σ, ds, h => swp P c (jumpQ l (swp P r (scopeQ Q)) Q) σ ds h
  | .tree l t, Q, σ, ds, h => stree P (fun ch h' => Q (.panic ch) (hideN l σ) ds h') (fun σ' h' => Q .normal σ' ds h') t σ h

/-! ### Soundness -/
variable {P : Program} {σ σ' : Env} {ops : Array Oper} {nt : Nat} {ds : List Deferred}

def Lift (nt : Nat) (w0 : World) (Q : Post) : Exit → Act → World → Prop := fun e a w => ∃ σ ds, Rel σ nt ds a ∧ SameB w0 w ∧ Q e σ ds w.heap

theorem coperAll_get : ∀ (l : List Oper) (ss : List SOper), coperAll P ops nt l = some ss → ss.length = l.length ∧ ∀ (i : Nat) (o : Oper), l[i]? = some o → ∃ s, ss[i]? = some s ∧ coper P ops nt o = some s
  | [], ss, h => by simp [coperAll] at h; subst h; simp
  | o :: l, ss, h => by
    simp only [coperAll] at h
    split at h
    · rename_i s sl hs hl
      simp at h; subst h
      obtain ⟨h1, h2⟩ := coperAll_get l sl hl
      refine ⟨by simp [h1], fun i o' ho => ?_⟩
      cases i with
      | zero => simp at ho; subst ho; exact ⟨s, by simp, hs⟩
      | succ i => simpa using h2 i o' (by simpa using ho)
    · simp at h

theorem mem_dstsOf : ∀ (l : List SOper) (s : SOper) (d : Nat), s ∈ l → s.dst = some d → d ∈ dstsOf l
  | [], s, d, hs, _ => by simp at hs
  | o :: l, s, d, hs, hd => by
    simp only [dstsOf]
    rcases List.mem_cons.1 hs with rfl | hs
    · rw [hd]; simp
    · have := mem_dstsOf l s d hs hd
      split
      · simp [this]
      · exact this

theorem hide_dst {l : List SOper} {s : SOper} {d : Nat} (hs : s ∈ l) (hd : s.dst = some d) : hide l σ d = none := by
  unfold hide
  rw [(hasN_iff d _).2 (mem_dstsOf l s d hs hd)]
  rfl

theorem hide_sub (l : List SOper) : Sub (hide l σ) σ := by
  intro t v h
  unfold hide at h
  cases hn : hasN t (dstsOf l) <;> simp [hn] at h
  exact h

theorem fine1_spec {ss : List SOper} {cl : List (List Nat)} {x : Nat} : ∀ {l : List Nat}, fine1 ss cl x l = true → ∀ y ∈ l, hasN x (cl.getD y []) = true ∨ ∃ a b, ss[x]? = some a ∧ ss[y]? = some b ∧ loose a b = true
  | [], _, y, hy => by simp at hy
  | z :: l, h, y, hy => by
    simp only [fine1, Bool.and_eq_true, Bool.or_eq_true] at h
    rcases List.mem_cons.1 hy with rfl | hy
    · rcases h.1 with h1 | h1
      · exact .inl h1
      · split at h1
        · rename_i a b ha hb; exact .inr ⟨a, b, ha, hb, h1⟩
        · simp at h1
    · exact fine1_spec h.2 y hy

theorem pickAll_spec {ss : List SOper} : ∀ {l : List Nat} {sl : List SOper}, pickAll ss l = some sl → sl.length = l.length ∧ ∀ (k i : Nat), l[k]? = some i → ∃ s, sl[k]? = some s ∧ ss[i]? = some s
  | [], sl, h => by simp [pickAll] at h; subst h; simp
  | i :: l, sl, h => by
    simp only [pickAll] at h
    split at h
    · rename_i s r hs hr
      simp at h; subst h
      obtain ⟨h1, h2⟩ := pickAll_spec hr
      refine ⟨by simp [h1], fun k j hk => ?_⟩
      cases k with
      | zero => simp at hk; subst hk; exact ⟨s, by simp, hs⟩
      | succ k => simpa using h2 k j (by simpa using hk)
    · simp at h

theorem nodupN_iff : ∀ {l : List Nat}, nodupN l = true → l.Nodup
  | [], _ => List.nodup_nil
  | x :: l, h => by
    simp only [nodupN, Bool.and_eq_true, Bool.not_eq_true'] at h
    refine List.nodup_cons.2 ⟨fun hm => ?_, nodupN_iff h.2⟩
    rw [(hasN_iff x l).2 hm] at h; simp at h

theorem topoN_spec : ∀ {l done : List Nat}, topoN (aheads ops) done l = true → Topo ops (fun k => k ∈ done) l
  | [], _, _ => trivial
  | x :: l, done, h => by
    simp only [topoN, Bool.and_eq_true, List.all_eq_true, hasN_iff] at h
    refine ⟨fun k hk => h.1 k (by rw [aheads_getD]; exact hk), (topoN_spec h.2).mono fun k hk => ?_⟩
    rcases List.mem_cons.1 hk with rfl | hk
    · exact .inr rfl
    · exact .inl hk

theorem pairwise_of_fine {ss : List SOper} {cl : List (List Nat)} {R : Nat × SOper → Nat × SOper → Prop}
    (hR : ∀ x y a b, ss[x]? = some a → ss[y]? = some b → (hasN x (cl.getD y []) = true ∨ loose a b = true) → R (x, a) (y, b)) :
    ∀ {l : List Nat} {sl : List SOper}, fine ss cl l = true → pickAll ss l = some sl → (l.zip sl).Pairwise R
  | [], sl, _, _ => by simp
  | x :: l, sl, hf, hp => by
    simp only [pickAll] at hp
    split at hp
    · rename_i s r hs hr
      simp at hp; subst hp
      simp only [fine, Bool.and_eq_true] at hf
      simp only [List.zip_cons_cons]
      refine List.pairwise_cons.2 ⟨fun q hq => ?_, pairwise_of_fine hR hf.2 hr⟩
      obtain ⟨y, b⟩ := q
      have hy : y ∈ l := (List.of_mem_zip hq).1
      obtain ⟨k, hk, hkq⟩ := List.getElem_of_mem hq
      have hl := pickAll_spec hr
      have hlk : k < l.length := by simp at hk; omega
      have hy1 : l[k]? = some y := by
        rw [List.getElem_zip] at hkq
        simp at hkq; rw [List.getElem?_eq_getElem hlk]; simp [hkq.1]
      obtain ⟨s2, hs2, hs3⟩ := hl.2 k y hy1
      have hb : r[k]? = some b := by
        rw [List.getElem_zip] at hkq
        simp at hkq
        have : k < r.length := by rw [hl.1]; exact hlk
        rw [List.getElem?_eq_getElem this]; simp [hkq.2]
      rw [hs2] at hb; simp at hb; subst hb
      rcases fine1_spec hf.1 y hy with h1 | ⟨a, b, ha, hb, hab⟩
      · exact hR x y s s2 hs hs3 (.inl h1)
      · rw [hs] at ha; rw [hs3] at hb
        simp at ha hb; subst ha; subst hb
        exact hR x y s s2 hs hs3 (.inr hab)
    · simp at hp

theorem map_zip_fst {α β : Type} : ∀ (l : List α) (r : List β), r.length = l.length → (l.zip r).map (·.1) = l
  | [], r, h => by simp
  | x :: l, [], h => by simp at h
  | x :: l, y :: r, h => by simp [map_zip_fst l r (by simpa using h)]
theorem map_zip_snd {α β : Type} : ∀ (l : List α) (r : List β), r.length = l.length → (l.zip r).map (·.2) = r
  | [], [], h => by simp
  | [], y :: r, h => by simp at h
  | x :: l, [], h => by simp at h
  | x :: l, y :: r, h => by simp [map_zip_snd l r (by simpa using h)]

theorem len_le : ∀ (n : Nat) (l : List Nat), l.Nodup → (∀ x ∈ l, x < n) → l.length ≤ n
  | 0, l, _, h => by
    cases l with
    | nil => simp
    | cons x l => exact absurd (h x (by simp)) (by omega)
  | n + 1, l, hn, h => by
    have ih := len_le n (l.erase n) (hn.erase n) (fun x hx => by
      have h1 := hn.mem_erase_iff.1 hx
      have := h x h1.2
      omega)
    have he := List.length_erase (a := n) (l := l)
    split at he <;> omega

theorem ordered_sound {ss l : List SOper} (hm : P.follows .mixedOrders = true) (hlen : ss.length = ops.size) (hgood : ∀ i s, ss[i]? = some s → Good P ops nt i s) (ho : ordered ss (aheads ops) ops.size = some l)
    {ro : Option Nat} {n id : Nat} {Q : Post} {a : Act} {w : World} (hr : Rel σ nt ds a)
    (h : sops P (fun ch h' => Q (.panic ch) (hide l σ) ds h') (fun σ' h' => Q .normal σ' ds h') l σ w.heap) :
    (Code.region id ops true).wpIn (FW ro) n P (Lift nt w Q) a w := by
  unfold ordered at ho
  simp only at ho
  split at ho
  · rename_i hc
    obtain ⟨h1, h2, h3, h4, h5⟩ := hc
    generalize hord : order ss (aheads ops) ops.size [] (List.range ops.size) = ord at *
    refine wpIn_region_any hm ?_
    have hps := pickAll_spec ho
    have e1 : (ord.zip l).map (·.1) = ord := map_zip_fst ord l hps.1
    have e2 : (ord.zip l).map (·.2) = l := map_zip_snd ord l hps.1
    have hnd := nodupN_iff h2
    refine any_sound (Qp := fun ch h' => Q (.panic ch) (hide l σ) ds h') (K := fun σ' h' => Q .normal σ' ds h') (τ := hide l σ) (ds := ds) (nt := nt) (w0 := w)
      (fun σ' a' w' hr' hb hk => ⟨σ', ds, hr', hb, hk⟩) (fun ch a' w' hτ hb hk => ⟨_, ds, hτ, hb, hk⟩) ops.size (ord.zip l) (Array.replicate ops.size false) σ a _ ?_ ?_ ?_ ?_ ?_ (by simp) ?_ ?_ ?_ hr (hr.sub (hide_sub l)) ⟨rfl, rfl, rfl⟩ ?_
    · simp [h1, hps.1]
    · rintro ⟨i, s⟩ hp
      obtain ⟨k, hk, hkq⟩ := List.getElem_of_mem hp
      have hlk : k < ord.length := by simp at hk; omega
      rw [List.getElem_zip] at hkq
      simp at hkq
      obtain ⟨s2, hs2, hs3⟩ := hps.2 k i (by rw [List.getElem?_eq_getElem hlk]; simp [hkq.1])
      have hll : k < l.length := by rw [hps.1]; exact hlk
      rw [List.getElem?_eq_getElem hll] at hs2
      simp [hkq.2] at hs2
      subst hs2
      exact hgood i _ hs3
    · rintro ⟨i, s⟩ hp d hd
      exact hide_dst (List.of_mem_zip hp).2 hd
    · rw [e1]; exact hnd
    · intro i hi
      rw [e1]
      have hall : ∀ i, i < ops.size → i ∈ ord := by
        intro i hi
        by_cases hin : i ∈ ord
        · exact hin
        · have := len_le ops.size (i :: ord) (List.nodup_cons.2 ⟨hin, hnd⟩) (fun x hx => by
            rcases List.mem_cons.1 hx with rfl | hx
            · exact hi
            · have := List.all_eq_true.1 h3 x hx
              exact Nat.le_of_ble_eq_true this)
          simp at this
          omega
      simp [hi, hall i hi]
    · intro j hj
      simp only [Array.getD_eq_getD_getElem?, Array.getElem?_replicate] at hj
      split at hj <;> simp at hj
    · rw [e1]
      refine (topoN_spec h5).mono fun k hk => by simp at hk
    · refine pairwise_of_fine (cl := (List.range ops.size).map fun i => closure (aheads ops) (ops.size * ops.size + ops.size) ((aheads ops).getD i []) []) ?_ h4 ho
      intro x y sa sb hx hy hor
      rcases hor with hor | hor
      · refine .inl fun L hcl hall => ?_
        have hy' : y < ops.size := by rw [← hlen]; exact (List.getElem?_eq_some_iff.1 hy).1
        rw [hasN_iff] at hor
        simp [List.getD, hy'] at hor
        refine closure_sound hcl _ _ _ ?_ ?_ x hor
        · intro k hk
          rw [← List.getD_eq_getElem?_getD, aheads_getD] at hk
          exact hall k hk
        · simp
      · exact .inr hor
    · rw [e2]; exact h
  · simp at ho

/-! ### Either of two first -/
theorem fineX1_spec {ss : List SOper} {cl : List (List Nat)} {a b x : Nat} : ∀ {l : List Nat}, fineX1 ss cl a b x l = true → ∀ y ∈ l, hasN x (cl.getD y []) = true ∨ (∃ s t, ss[x]? = some s ∧ ss[y]? = some t ∧ loose s t = true) ∨ (x = a ∧ (y = b ∨ hasN b (cl.getD y []) = true))
  | [], _, y, hy => by simp at hy
  | z :: l, h, y, hy => by
    simp only [fineX1, Bool.and_eq_true, Bool.or_eq_true] at h
    rcases List.mem_cons.1 hy with rfl | hy
    · rcases h.1 with (h1 | h1) | h1
      · exact .inl h1
      · split at h1
        · rename_i s t hs ht; exact .inr (.inl ⟨s, t, hs, ht, h1⟩)
        · simp at h1
      · exact .inr (.inr ⟨Nat.eq_of_beq_eq_true h1.1, h1.2.imp Nat.eq_of_beq_eq_true id⟩)
    · exact fineX1_spec h.2 y hy

theorem pairwise_of_fineX {ss : List SOper} {cl : List (List Nat)} {c d : Nat} {R : Nat × SOper → Nat × SOper → Prop}
    (hR : ∀ x y a b, ss[x]? = some a → ss[y]? = some b → (hasN x (cl.getD y []) = true ∨ loose a b = true ∨ (x = c ∧ (y = d ∨ hasN d (cl.getD y []) = true))) → R (x, a) (y, b)) :
    ∀ {l : List Nat} {sl : List SOper}, fineX ss cl c d l = true → pickAll ss l = some sl → (l.zip sl).Pairwise R
  | [], sl, _, _ => by simp
  | x :: l, sl, hf, hp => by
    simp only [pickAll] at hp
    split at hp
    · rename_i s r hs hr
      simp at hp; subst hp
      simp only [fineX, Bool.and_eq_true] at hf
      simp only [List.zip_cons_cons]
      refine List.pairwise_cons.2 ⟨fun q hq => ?_, pairwise_of_fineX hR hf.2 hr⟩
      obtain ⟨y, b⟩ := q
      have hy : y ∈ l := (List.of_mem_zip hq).1
      obtain ⟨k, hk, hkq⟩ := List.getElem_of_mem hq
      have hl := pickAll_spec hr
      have hlk : k < l.length := by simp at hk; omega
      have hy1 : l[k]? = some y := by
        rw [List.getElem_zip] at hkq
        simp at hkq; rw [List.getElem?_eq_getElem hlk]; simp [hkq.1]
      obtain ⟨s2, hs2, hs3⟩ := hl.2 k y hy1
      have hb : r[k]? = some b := by
        rw [List.getElem_zip] at hkq
        simp at hkq
        have : k < r.length := by rw [hl.1]; exact hlk
        rw [List.getElem?_eq_getElem this]; simp [hkq.2]
      rw [hs2] at hb; simp at hb; subst hb
      rcases fineX1_spec hf.1 y hy with h1 | ⟨a, b, ha, hb, hab⟩ | h1
      · exact hR x y s s2 hs hs3 (.inl h1)
      · rw [hs] at ha; rw [hs3] at hb
        simp at ha hb; subst ha; subst hb
        exact hR x y s s2 hs hs3 (.inr (.inl hab))
      · exact hR x y s s2 hs hs3 (.inr (.inr h1))
    · simp at hp

theorem pickAll_append {ss : List SOper} : ∀ {l m : List Nat} {sl sm : List SOper}, pickAll ss l = some sl → pickAll ss m = some sm → pickAll ss (l ++ m) = some (sl ++ sm)
  | [], m, sl, sm, h1, h2 => by simp [pickAll] at h1; subst h1; exact h2
  | x :: l, m, sl, sm, h1, h2 => by
    simp only [pickAll] at h1
    split at h1
    · rename_i s r hs hr
      simp at h1; subst h1
      simp only [List.cons_append, pickAll, hs, pickAll_append hr h2]
    · simp at h1

theorem waits_of {a y : Nat} (hy : y < ops.size) (h : hasN a (((List.range ops.size).map fun i => closure (aheads ops) (ops.size * ops.size + ops.size) ((aheads ops).getD i []) []).getD y []) = true) : Waits ops a y := by
  intro L hcl hall
  rw [hasN_iff] at h
  simp [List.getD, hy] at h
  refine closure_sound hcl _ _ _ ?_ ?_ a h
  · intro k hk
    rw [← List.getD_eq_getElem?_getD, aheads_getD] at hk
    exact hall k hk
  · simp

/-- An order of ours, at the beginning. -/
theorem inv_start {ss sl : List SOper} {ord : List Nat} {a b : Nat} {τ : Env} (hlen : ss.length = ops.size) (hgood : ∀ i s, ss[i]? = some s → Good P ops nt i s)
    (hok : okX ss (aheads ops) ((List.range ops.size).map fun i => closure (aheads ops) (ops.size * ops.size + ops.size) ((aheads ops).getD i []) []) ops.size a b ord = true) (hp : pickAll ss ord = some sl)
    (hτ : ∀ s ∈ sl, ∀ d, s.dst = some d → τ d = none) :
    (ord.zip sl).length = ops.size ∧ Inv P ops nt τ (ord.zip sl) (Array.replicate ops.size false) ∧ (ord.zip sl).Pairwise (AfterX ops a b) := by
  simp only [okX, Bool.and_eq_true] at hok
  obtain ⟨⟨⟨⟨h1, h2⟩, h3⟩, h4⟩, h5⟩ := hok
  have h1 := Nat.eq_of_beq_eq_true h1
  have hps := pickAll_spec hp
  have e1 : (ord.zip sl).map (·.1) = ord := map_zip_fst ord sl hps.1
  have hnd := nodupN_iff h2
  refine ⟨by simp [h1, hps.1], ⟨?_, ?_, by rw [e1]; exact hnd, ?_, ?_⟩, ?_⟩
  · rintro ⟨i, s⟩ hp
    obtain ⟨k, hk, hkq⟩ := List.getElem_of_mem hp
    have hlk : k < ord.length := by simp at hk; omega
    rw [List.getElem_zip] at hkq
    simp at hkq
    obtain ⟨s2, hs2, hs3⟩ := hps.2 k i (by rw [List.getElem?_eq_getElem hlk]; simp [hkq.1])
    have hll : k < sl.length := by rw [hps.1]; exact hlk
    rw [List.getElem?_eq_getElem hll] at hs2
    simp [hkq.2] at hs2
    subst hs2
    exact hgood i _ hs3
  · rintro ⟨i, s⟩ hp d hd
    exact hτ s (List.of_mem_zip hp).2 d hd
  · intro i hi
    rw [e1]
    have hall : i ∈ ord := by
      by_cases hin : i ∈ ord
      · exact hin
      · have := len_le ops.size (i :: ord) (List.nodup_cons.2 ⟨hin, hnd⟩) (fun x hx => by
          rcases List.mem_cons.1 hx with rfl | hx
          · exact hi
          · have := List.all_eq_true.1 h3 x hx
            exact Nat.le_of_ble_eq_true this)
        simp at this
        omega
    simp [hi, hall]
  · rw [e1]
    refine (topoN_spec h5).mono fun k hk => by simp at hk
  · refine pairwise_of_fineX ?_ h4 hp
    intro x y sa sb hx hy hor
    rcases hor with hor | hor | hor
    · refine .inl (.inl fun L hcl hall => ?_)
      have hy' : y < ops.size := by rw [← hlen]; exact (List.getElem?_eq_some_iff.1 hy).1
      rw [hasN_iff] at hor
      simp [List.getD, hy'] at hor
      refine closure_sound hcl _ _ _ ?_ ?_ x hor
      · intro k hk
        rw [← List.getD_eq_getElem?_getD, aheads_getD] at hk
        exact hall k hk
      · simp
    · exact .inl (.inr hor)
    · have hy' : y < ops.size := by rw [← hlen]; exact (List.getElem?_eq_some_iff.1 hy).1
      exact .inr ⟨hor.1, hor.2.imp id (waits_of hy')⟩

theorem lateX_spec {cl : List (List Nat)} {a b : Nat} : ∀ {l : List Nat}, lateX cl a b l = true → ∀ y ∈ l, y = b ∨ hasN a (cl.getD y []) = true ∨ hasN b (cl.getD y []) = true
  | [], _, y, hy => by simp at hy
  | z :: l, h, y, hy => by
    simp only [lateX, Bool.and_eq_true, Bool.or_eq_true] at h
    rcases List.mem_cons.1 hy with rfl | hy
    · rcases h.1 with (h1 | h1) | h1
      · exact .inl (Nat.eq_of_beq_eq_true h1)
      · exact .inr (.inl h1)
      · exact .inr (.inr h1)
    · exact lateX_spec h.2 y hy

theorem zip_app {α β : Type} : ∀ (l : List α) (l' : List β) (m : List α) (m' : List β), l'.length = l.length → (l ++ m).zip (l' ++ m') = l.zip l' ++ m.zip m'
  | [], [], m, m', _ => rfl
  | [], _ :: _, _, _, h => by simp at h
  | _ :: _, [], _, _, h => by simp at h
  | x :: l, y :: l', m, m', h => by simp [zip_app l l' m m' (by simpa using h)]

theorem hardOf_ne {ss : List SOper} {cl : List (List Nat)} {x : Nat} : ∀ {l : List Nat}, x ∉ l → ∀ {a b : Nat}, (a, b) ∈ hardOf ss cl x l → a = x ∧ b ∈ l
  | [], _, _, _, h => by simp [hardOf] at h
  | y :: l, hx, a, b, h => by
    have hxl : x ∉ l := fun hm => hx (by simp [hm])
    have h2 : (a, b) = (x, y) ∨ (a, b) ∈ hardOf ss cl x l := by
      simp only [hardOf] at h
      split at h <;> split at h
      · exact List.mem_cons.1 h
      · exact .inr h
      · exact List.mem_cons.1 h
      · exact .inr h
    rcases h2 with h | h
    · simp only [Prod.mk.injEq] at h
      obtain ⟨rfl, rfl⟩ := h
      exact ⟨rfl, by simp⟩
    · have := hardOf_ne hxl h
      exact ⟨this.1, by simp [this.2]⟩

theorem hard_ne {ss : List SOper} {cl : List (List Nat)} : ∀ {l : List Nat}, l.Nodup → ∀ {a b : Nat}, (a, b) ∈ hard ss cl l → a ≠ b
  | [], _, _, _, h => by simp [hard] at h
  | x :: l, hn, a, b, h => by
    have hn' := List.nodup_cons.1 hn
    simp only [hard, List.mem_append] at h
    rcases h with h | h
    · have := hardOf_ne hn'.1 h
      rintro rfl
      exact hn'.1 (by rw [← this.1]; exact this.2)
    · exact hard_ne hn'.2 h

theorem pairIn_spec {ss : List SOper} {as cl : List (List Nat)} {n : Nat} {x : List SOper × List SOper × List SOper} : ∀ {l : List (Nat × Nat)}, pairIn ss as cl n l = some x → ∃ a b, pairAt ss as cl n a b = some x
  | [], h => by simp [pairIn] at h
  | (a, b) :: r, h => by
    simp only [pairIn] at h
    split at h
    · rename_i y hy
      exact ⟨a, b, by rw [hy]; exact h⟩
    · exact pairIn_spec h

theorem ordered2_sound {ss sp s1 s2 : List SOper} (hm : P.follows .mixedOrders = true) (hlen : ss.length = ops.size) (hgood : ∀ i s, ss[i]? = some s → Good P ops nt i s) (ho : ordered2 ss (aheads ops) ops.size = some (sp, s1, s2))
    {ro : Option Nat} {n id : Nat} {Q : Post} {ac : Act} {w : World} (hr : Rel σ nt ds ac)
    (h : sops P (fun ch h' => Q (.panic ch) (hide (sp ++ (s1 ++ s2)) σ) ds h')
      (fun σ1 h1 => sops P (fun ch h' => Q (.panic ch) (hide (sp ++ (s1 ++ s2)) σ) ds h') (fun σ' h' => Q .normal σ' ds h') s1 σ1 h1 ∧ sops P (fun ch h' => Q (.panic ch) (hide (sp ++ (s1 ++ s2)) σ) ds h') (fun σ' h' => Q .normal σ' ds h') s2 σ1 h1) sp σ w.heap) :
    (Code.region id ops true).wpIn (FW ro) n P (Lift nt w Q) ac w := by
  unfold ordered2 at ho
  obtain ⟨a, b, ho⟩ := pairIn_spec ho
  unfold pairAt at ho
  simp only at ho
  generalize order ss (aheads ops) ops.size [] _ = p at ho
  generalize hr1 : order ss (aheads ops) ops.size (a :: p) _ = r1 at ho
  generalize hr2 : order ss (aheads ops) ops.size (b :: p) _ = r2 at ho
  split at ho
  · rename_i hc
    obtain ⟨h0, h1, h2, h3⟩ := hc
    split at ho
    · rename_i tp t1 t2 hp hp1 hp2
      simp only [Option.some.injEq, Prod.mk.injEq] at ho
      obtain ⟨rfl, rfl, rfl⟩ := ho
      refine wpIn_region_any hm ?_
      have q1 := pickAll_append hp hp1
      have q2 := pickAll_append hp hp2
      obtain ⟨l1, v1, w1⟩ := inv_start (P := P) (nt := nt) (τ := hide (tp ++ (t1 ++ t2)) σ) hlen hgood h1 q1 (fun s hs d hd => hide_dst (by simp only [List.mem_append] at hs ⊢; rcases hs with h | h <;> simp [h]) hd)
      obtain ⟨l2, v2, w2⟩ := inv_start (P := P) (nt := nt) (τ := hide (tp ++ (t1 ++ t2)) σ) hlen hgood h2 q2 (fun s hs d hd => hide_dst (by simp only [List.mem_append] at hs ⊢; rcases hs with h | h <;> simp [h]) hd)
      have lp := (pickAll_spec hp).1
      rw [zip_app _ _ _ _ lp] at l1 v1 w1 l2 v2 w2
      -- the heads
      simp only [pickAll] at hp1 hp2
      split at hp1
      · rename_i sa ra hsa hra
        simp at hp1; subst hp1
        split at hp2
        · rename_i sb rb hsb hrb
          simp at hp2; subst hp2
          have hab : a ≠ b := by
            rintro rfl
            simp at h0
          simp only [List.zip_cons_cons] at l1 v1 w1 l2 v2 w2
          have e2 : (p.zip tp).map (·.2) = tp := map_zip_snd _ _ lp
          have er1 : (r1.zip ra).map (·.2) = ra := map_zip_snd _ _ (pickAll_spec hra).1
          have er2 : (r2.zip rb).map (·.2) = rb := map_zip_snd _ _ (pickAll_spec hrb).1
          refine two_sound (Qp := fun ch h' => Q (.panic ch) (hide (tp ++ ((sa :: ra) ++ (sb :: rb))) σ) ds h') (K := fun σ' h' => Q .normal σ' ds h') (τ := hide (tp ++ ((sa :: ra) ++ (sb :: rb))) σ) (ds := ds) (nt := nt) (w0 := w) (a := a) (b := b) hab
            (fun σ' a' w' hr' hb hk => ⟨σ', ds, hr', hb, hk⟩) (fun ch a' w' hτ hb hk => ⟨_, ds, hτ, hb, hk⟩) (r1 := r1.zip ra) (r2 := r2.zip rb) ?_ ops.size (p.zip tp) (Array.replicate ops.size false) σ ac _ l1 l2 v1 v2 (by simp) ?_ w1 w2 hr (hr.sub (hide_sub _)) ⟨rfl, rfl, rfl⟩ ?_
          · rintro ⟨y, s⟩ hq
            have hy : y ∈ r1 := (List.of_mem_zip hq).1
            have hlt : y < ops.size := by
              have hg := v1.good (y, s) (by simp [hq])
              obtain ⟨o, _, ho, _⟩ := hg
              exact (Array.getElem?_eq_some_iff.1 ho).1
            rcases lateX_spec h3 y hy with h | h | h
            · exact .inl h
            · exact .inr (.inl (waits_of hlt h))
            · exact .inr (.inr (waits_of hlt h))
          · intro j hj
            simp only [Array.getD_eq_getD_getElem?, Array.getElem?_replicate] at hj
            split at hj <;> simp at hj
          · rw [e2, er1, er2]; exact h
        · simp at hp2
      · simp at hp1
    · simp at ho
  · simp at ho

end Go.Sx
