/-
  Runs of simplified code: each operation that calls nothing, soundly (2): memory.
-/
import Derived.Test.YtaeabfemedamhaaGreatDoorSxYE
namespace Go.Sx
open Go

section
variable {P : Program} {ρ : Rho} {F : Nat → Prop} {h0 h h' : Heap} {H H' : AH} {E : AE} {σ : Env} {id : Nat} {v : AV} {K : Value → Heap → Prop} {Qp : List PanicEntry → Heap → Prop}

theorem gM_pos : 0 < gM := by decide
theorem gM_mod {s t : Nat} (h : s < gM) : (s + gM * t) % gM = s := by rw [Nat.add_mul_mod_self_left, Nat.mod_eq_of_lt h]
theorem gM_div {s t : Nat} (h : s < gM) : (s + gM * t) / gM = t := by rw [Nat.add_mul_div_left _ _ gM_pos, Nat.div_eq_of_lt h, Nat.zero_add]
theorem Rep.newCellsT (hR : Rep F h0 ρ H h) {w : Bool} {sz ty b cp : Nat} {l : List AV} {vs tail : List Value} (hlt : sz < gM) (hg : grow H id (.cells w (sz + gM * ty) l) = some H') (hc : concs ρ l = some vs) (g : Grow h h' b (vs ++ tail))
    (hgz : sz ≠ 0 → l.length ≤ cp * sz ∧ cp * sz ≤ l.length + tail.length) (ht : ty ≠ 0 → TyB h' b ty ∧ (sz = 0 → tail = [])) : ∃ ρ', Le ρ ρ' ∧ ρ'.pl id = some (b, 0, cp) ∧ Rep F h0 ρ' H' h' :=
  hR.new hg g.id g.size g.old fun ρ' hl _ => ⟨vs, [], tail, concs_mono hl _ _ hc, rfl, by rw [gM_mod hlt]; exact hgz, by cases w; exact g.blk; exact Blk.w g.blk, by rw [gM_mod hlt, gM_div hlt]; exact fun hz => ⟨rfl, (ht hz).1, (ht hz).2⟩⟩
theorem Rep.newCells (hR : Rep F h0 ρ H h) {w : Bool} {gz b cp : Nat} {l : List AV} {vs tail : List Value} (hg : grow H id (.cells w gz l) = some H') (hc : concs ρ l = some vs) (g : Grow h h' b (vs ++ tail))
    (hgz : gz ≠ 0 → l.length ≤ cp * gz ∧ cp * gz ≤ l.length + tail.length) (hlt : gz < gM := by decide) : ∃ ρ', Le ρ ρ' ∧ ρ'.pl id = some (b, 0, cp) ∧ Rep F h0 ρ' H' h' :=
  hR.newCellsT (ty := 0) hlt hg hc g hgz fun hz => absurd rfl hz
theorem Rep.newCellsW (hR : Rep F h0 ρ H h) {gz b cp : Nat} {l : List AV} {vs tail : List Value} (hg : grow H id (.cells true gz l) = some H') (hc : concs ρ l = some vs) (g : GrowW h h' b (vs ++ tail))
    (hgz : gz ≠ 0 → l.length ≤ cp * gz ∧ cp * gz ≤ l.length + tail.length) (hlt : gz < gM := by decide) : ∃ ρ', Le ρ ρ' ∧ ρ'.pl id = some (b, 0, cp) ∧ Rep F h0 ρ' H' h' :=
  hR.new hg g.id g.size g.old fun ρ' hl _ => ⟨vs, [], tail, concs_mono hl _ _ hc, rfl, by rw [Nat.mod_eq_of_lt hlt]; exact hgz, g.blk, by rw [Nat.div_eq_of_lt hlt]; exact fun hz => absurd rfl hz⟩

theorem abytes_sound : ∀ {vs : List AV} {bs : List UInt8}, abytes vs = some bs → concs ρ vs = some (bs.map fun b => .int .u8 b.toNat) ∧ bs.length = vs.length
  | [], bs, h => by simp [abytes] at h; subst h; exact ⟨rfl, rfl⟩
  | x :: vs, bs, h => by
    unfold abytes at h
    split at h
    · rename_i heq; simp at heq
    · rename_i n l heq
      simp at heq
      obtain ⟨rfl, rfl⟩ := heq
      split at h
      · rename_i r hr
        simp only [cond_eq_ite, Nat.beq_eq] at h
        split at h
        · rename_i hn
          simp at h; subst h
          obtain ⟨h1, h2⟩ := abytes_sound hr
          refine ⟨?_, by simp [h2]⟩
          simp only [concs, conc, h1, List.map_cons, hn]
        · simp at h
      · simp at h
    · simp at h

/-! ### Maps -/
theorem RM.len : ∀ {es : List (AV × AV × Nat)} {ms : List MapEntry}, RM ρ es ms → ms.length = es.length
  | [], [], _ => rfl
  | [], _ :: _, h => h.elim
  | _ :: _, [], h => by simp [RM] at h
  | (k, v, b) :: es, e :: ms, ⟨_, _, _, h4⟩ => by simp [h4.len]
theorem RM.fits {kd : Kd} : ∀ {es : List (AV × AV × Nat)} {ms : List MapEntry}, RM ρ es ms → afitsM kd es = true → ∀ e ∈ ms, Sx.fits kd e.key = true
  | [], [], _, _, e, he => by simp at he
  | [], _ :: _, h, _, _, _ => h.elim
  | _ :: _, [], h, _, _, _ => by simp [RM] at h
  | (k, v, b) :: es, e :: ms, ⟨h1, _, _, h4⟩, hf, e', he => by
    simp [afitsM] at hf
    rcases List.mem_cons.1 he with rfl | he
    · exact afits_fits hf.1 h1
    · exact RM.fits h4 hf.2 e' he
theorem same_iff {kd : Kd} {x y : AV} {u w : Value} (hx : afits kd x = true) (hy : afits kd y = true) (hu : conc ρ x = some u) (hw : conc ρ y = some w) : Instr.sameBits 10000 u w = aeq x y := by
  have hi := afits_inj hx hy hu hw
  have f1 := afits_fits hx hu
  have f2 := afits_fits hy hw
  cases ha : aeq x y with
  | true => have := hi.1 ha; subst this; exact sameBits_refl f1
  | false =>
    cases hs : Instr.sameBits 10000 u w with
    | false => rfl
    | true => have := hi.2 (sameBits_eq f1 f2 hs); rw [ha] at this; simp at this
theorem RM.find {kd : Kd} {k : AV} {kv : Value} (hk : afits kd k = true) (hkv : conc ρ k = some kv) : ∀ {es : List (AV × AV × Nat)} {ms : List MapEntry} (i : Nat), RM ρ es ms → afitsM kd es = true →
    (∀ j x, afind k es i = some (j, x) → ∃ u, mfind kv ms i = some (j, u) ∧ conc ρ x = some u) ∧ (afind k es i = none → mfind kv ms i = none)
  | [], [], i, _, _ => ⟨fun j x h => by simp [afind] at h, fun _ => rfl⟩
  | [], _ :: _, _, h, _ => h.elim
  | _ :: _, [], _, h, _ => by simp [RM] at h
  | (k', v, b) :: es, e :: ms, i, ⟨h1, h2, _, h4⟩, hf => by
    simp [afitsM] at hf
    have hs := same_iff hk hf.1 hkv h1
    have ih := RM.find hk hkv (i + 1) h4 hf.2
    simp only [afind, mfind, hs]
    cases ha : aeq k k' with
    | true => exact ⟨fun j x h => by simp at h; obtain ⟨rfl, rfl⟩ := h; exact ⟨e.val, by simp, h2⟩, fun h => by simp at h⟩
    | false => exact ⟨fun j x h => by simp at h; simpa using ih.1 j x h, fun h => by simp at h; simpa using ih.2 h⟩
theorem RM.set {x : AV} {u : Value} (hx : conc ρ x = some u) : ∀ {es : List (AV × AV × Nat)} {ms : List MapEntry} (i : Nat), RM ρ es ms → RM ρ (asetM x es i) (ms.modify i fun e => { e with val := u })
  | [], [], i, _ => by cases i <;> exact trivial
  | [], _ :: _, _, h => h.elim
  | _ :: _, [], _, h => by simp [RM] at h
  | (k', v, b) :: es, e :: ms, 0, ⟨h1, _, h3, h4⟩ => ⟨h1, hx, h3, h4⟩
  | (k', v, b) :: es, e :: ms, i + 1, ⟨h1, h2, h3, h4⟩ => by
    rw [List.modify_succ_cons]
    exact ⟨h1, h2, h3, RM.set hx i h4⟩
theorem RM.del : ∀ {es : List (AV × AV × Nat)} {ms : List MapEntry} (i : Nat), RM ρ es ms → RM ρ (adelM es i) (ms.eraseIdx i)
  | [], [], i, _ => by cases i <;> exact trivial
  | [], _ :: _, _, h => h.elim
  | _ :: _, [], _, h => by simp [RM] at h
  | (k', v, b) :: es, e :: ms, 0, ⟨_, _, _, h4⟩ => h4
  | (k', v, b) :: es, e :: ms, i + 1, ⟨h1, h2, h3, h4⟩ => ⟨h1, h2, h3, RM.del i h4⟩
theorem RM.app {k x : AV} {kv u : Value} {c : Nat} (hk : conc ρ k = some kv) (hx : conc ρ x = some u) : ∀ {es : List (AV × AV × Nat)} {ms : List MapEntry}, RM ρ es ms → RM ρ (es ++ [(k, x, c)]) (ms ++ [{ key := kv, val := u, born := c }])
  | [], [], _ => ⟨hk, hx, rfl, trivial⟩
  | [], _ :: _, h => h.elim
  | _ :: _, [], h => by simp [RM] at h
  | (k', v, b) :: es, e :: ms, ⟨h1, h2, h3, h4⟩ => ⟨h1, h2, h3, RM.app hk hx h4⟩
theorem RM.left {since : Nat} {seen : List Nat} : ∀ {es : List (AV × AV × Nat)} {ms : List MapEntry} {l : List (AV × AV × Nat)}, RM ρ es ms → aleft since seen es = some l →
    (∀ e ∈ ms, e.born < since) ∧ (∀ e ∈ ms, seen.contains e.born = false → ∃ x ∈ l, conc ρ x.1 = some e.key ∧ conc ρ x.2.1 = some e.val ∧ e.born = x.2.2)
  | [], [], l, _, h => ⟨fun e he => by simp at he, fun e he => by simp at he⟩
  | [], _ :: _, _, h, _ => h.elim
  | _ :: _, [], _, h, _ => by simp [RM] at h
  | (k', v, b) :: es, e :: ms, l, ⟨h1, h2, h3, h4⟩, h => by
    simp only [aleft] at h
    split at h
    · rename_i r hr
      obtain ⟨i1, i2⟩ := RM.left h4 hr
      simp only [cond_eq_ite, Nat.blt_eq] at h
      split at h
      · rename_i hlt
        refine ⟨fun e' he => ?_, fun e' he hs => ?_⟩
        · rcases List.mem_cons.1 he with rfl | he
          · rw [h3]; exact hlt
          · exact i1 e' he
        · split at h
          · rename_i hsn
            simp at h; subst h
            rcases List.mem_cons.1 he with rfl | he
            · rw [h3] at hs
              have : b ∈ seen := (hasN_iff _ _).1 hsn
              simp [this] at hs
            · exact i2 e' he hs
          · simp at h; subst h
            rcases List.mem_cons.1 he with rfl | he
            · exact ⟨(k', v, b), by simp, h1, h2, h3⟩
            · obtain ⟨x, hx, hh⟩ := i2 e' he hs
              exact ⟨x, by simp [hx], hh⟩
      · simp at h
    · simp at h
/-- What is left is not seen. -/
theorem left_seen {since : Nat} {seen : List Nat} : ∀ {es : List (AV × AV × Nat)} {ms : List MapEntry} {l : List (AV × AV × Nat)} {x : AV × AV × Nat}, aleft since seen es = some (x :: l) → RM ρ es ms → (∀ e ∈ ms, (⟨seen⟩ : Array Nat).contains e.born = true) → False
  | [], _, l, x, h, _, _ => by simp [aleft] at h
  | _ :: _, [], _, _, _, h, _ => by simp [RM] at h
  | (k', v, b) :: es, e :: ms, l, x, h, ⟨h1, h2, h3, h4⟩, hall => by
    simp only [aleft] at h
    split at h
    · rename_i r hr
      simp only [cond_eq_ite, Nat.blt_eq] at h
      split at h
      · split at h
        · rename_i hsn
          simp at h; subst h
          exact left_seen hr h4 fun e' he' => hall e' (by simp [he'])
        · rename_i hsn
          have := hall e (by simp)
          rw [h3] at this
          apply hsn
          rw [hasN_iff]
          simpa using this
      · simp at h
    · simp at h
theorem RM.born {b : Nat} : ∀ {es : List (AV × AV × Nat)} {ms : List MapEntry} {x : AV × AV × Nat}, RM ρ es ms → abyBorn b es = some x → ∃ e, ms.find? (fun e => e.born == b) = some e ∧ conc ρ x.1 = some e.key ∧ conc ρ x.2.1 = some e.val
  | [], [], x, _, h => by simp [abyBorn] at h
  | [], _ :: _, _, h, _ => h.elim
  | _ :: _, [], _, h, _ => by simp [RM] at h
  | (k', v, b') :: es, e :: ms, x, ⟨h1, h2, h3, h4⟩, h => by
    simp only [abyBorn, cond_eq_ite, Nat.beq_eq] at h
    split at h
    · rename_i hb
      simp at h; subst h
      exact ⟨e, by simp [List.find?, h3, hb], h1, h2⟩
    · rename_i hb
      obtain ⟨e', h5, h6⟩ := RM.born h4 h
      refine ⟨e', ?_, h6⟩
      rw [List.find?_cons_of_neg (by simp [h3, hb])]; exact h5

theorem Rep.mapOf (hR : Rep F h0 ρ H h) {a b ba cp c : Nat} {es : List (AV × AV × Nat)} (hg : H.get a = some (.map es c)) (hp : ρ.pl a = some (b, ba, cp)) : ∃ ms, MapB h b ms c ∧ RM ρ es ms := by
  obtain ⟨r, hr, _, _, ms, h1, h2⟩ := hR.obj a _ hg (by simp)
  rw [hp] at hr; simp at hr; subst hr
  exact ⟨ms, h1, h2⟩
theorem Rep.setMap (hR : Rep F h0 ρ H h) {a b ba cp c c' : Nat} {es es' : List (AV × AV × Nat)} {ms' : List MapEntry} (hg : H.get a = some (.map es c)) (hp : ρ.pl a = some (b, ba, cp)) (hput : T.wput H a (some (.map es' c')) = some H')
    (hP : PutO h h' b (.map ⟨ms'⟩ c')) (hm : RM ρ es' ms') : Rep F h0 ρ H' h' :=
  hR.set hg (by simp) hp hput hP.size (fun k hk => hP.old k hk) fun _ => ⟨ms', hP.blk, hm⟩

theorem Src.cells {b o n : Nat} {us : List Value} (h : Cells h' b o us) : Src h' (some ⟨b, o, none⟩) n us := h

theorem splice_whole : ∀ (l us : List Value), l.length = us.length → splice l 0 us = us
  | [], [], _ => rfl
  | [], _ :: _, h => by simp at h
  | _ :: _, [], h => by simp at h
  | x :: l, u :: us, h => by
    simp only [splice]
    rw [splice_whole l us (by simpa using h)]

theorem inplace_eq (vs tail us yv : List Value) (o n1 : Nat) (hus : us = (vs.drop o).take n1) (hdl : o + n1 ≤ vs.length) (hfit : o + n1 + yv.length ≤ vs.length + tail.length) :
    splice (vs ++ tail) (o + n1) yv = vs.take o ++ (us ++ yv ++ (vs ++ tail).drop (o + n1 + yv.length)) := by
  obtain ⟨L, hL⟩ : ∃ L, L = vs ++ tail := ⟨_, rfl⟩
  rw [← hL]
  have hLl : L.length = vs.length + tail.length := by rw [hL]; simp
  have hA : vs.take o ++ us = L.take (o + n1) := by
    rw [hus, hL, List.take_append_of_le_length hdl, List.take_add]
  have hAl : (L.take (o + n1)).length = o + n1 := by rw [List.length_take]; omega
  have e1 : L = L.take (o + n1) ++ ((L.drop (o + n1)).take yv.length ++ L.drop (o + n1 + yv.length)) := by
    have d : L.drop (o + n1 + yv.length) = (L.drop (o + n1)).drop yv.length := by rw [List.drop_drop]
    rw [d, List.take_append_drop, List.take_append_drop]
  have hB : ((L.drop (o + n1)).take yv.length).length = yv.length := by simp; omega
  have e2 : splice L (o + n1) yv = splice (L.take (o + n1) ++ ((L.drop (o + n1)).take yv.length ++ L.drop (o + n1 + yv.length))) ((L.take (o + n1)).length + 0) yv := by
    rw [← e1, hAl, Nat.add_zero]
  rw [e2, splice_pre, splice_tail _ _ _ _ (by omega), splice_whole _ _ hB, ← hA]
  simp [List.append_assoc]

/-! ### Appends -/
theorem app_core (hR : Rep F h0 ρ H h) {size bytes ty m : Nat} {w : Bool} {z : List Value} {x : AV} {xv : Value} {ys : List AV} {yv : List Value} (hx : conc ρ x = some xv) (hz : z.length = size)
    (hy : concs ρ ys = some yv) (hyl : yv.length = m * size) (ho : appA H id size bytes ty w x ys m = some (v, H')) (hK : Fine F h0 ρ H' v K) :
    ∃ a n c xs, xv = .slice a n c ∧ xs.length = n * size ∧ Src h a n xs ∧
      (n + m ≤ c → (a = none ∧ K (.slice none (n + m) c) h) ∨ ∃ b o l, a = some ⟨b, o, none⟩ ∧ (w = false → Blk h b l) ∧ BlkW h b l ∧ o + (n + m) * size ≤ l.length ∧
        ∀ h', (w = false → Put h h' b (splice l (o + n * size) yv)) → PutW h h' b (splice l (o + n * size) yv) → K (.slice (some ⟨b, o, none⟩) (n + m) c) h') ∧
      (c < n + m → ((n + m) * 2 + 768) * bytes ≤ 281474976710656 ∧ ∀ c' b h', n + m ≤ c' → Grow h h' b (xs ++ yv ++ (List.replicate (c' - (n + m)) z).flatten) → (ty ≠ 0 → TyB h' b ty) → K (.slice (some ⟨b, 0, none⟩) (n + m) c') h') := by
  unfold appA at ho
  split at ho
  · simp [conc] at hx; subst hx
    simp only [cond_eq_ite, Nat.beq_eq, Nat.ble_eq, Nat.blt_eq] at ho
    split at ho
    · rename_i hm
      simp at ho; obtain ⟨rfl, rfl⟩ := ho
      subst hm
      exact ⟨none, 0, 0, [], rfl, by simp, rfl, fun _ => .inl ⟨rfl, Fine.now hR hK rfl⟩, fun h => by omega⟩
    · rename_i hm
      split at ho
      · rename_i hb
        split at ho
        · rename_i hsz
          split at ho
          · rename_i H1 hg
            simp at ho; obtain ⟨rfl, rfl⟩ := ho
            refine ⟨none, 0, 0, [], rfl, by simp, rfl, fun h => by omega, fun _ => ⟨by rw [Nat.zero_add]; omega, fun c'' b h' hc hg' hty => ?_⟩⟩
            rw [List.nil_append] at hg'
            have hlen := concs_len hy
            obtain ⟨ρ', hl, hp, hR'⟩ := hR.newCellsT (cp := c'') hsz hg hy hg' (fun hne => by
              rw [List.length_flatten, List.map_replicate, List.sum_replicate_nat, hz, ← hlen, hyl]
              refine ⟨Nat.mul_le_mul_right _ (by omega), ?_⟩
              rw [← Nat.add_mul]; exact Nat.mul_le_mul_right _ (by omega)) (fun hne => ⟨hty hne, fun h0 => by rw [h0] at hz; rw [List.length_eq_zero_iff.1 hz]; simp⟩)
            refine hK ρ' h' _ hl hR' ?_
            simp only [conc, hp]
            rw [if_pos (by omega)]
            simp
          · simp at ho
        · simp at ho
      · simp at ho
  · rename_i a o n c
    simp only [conc] at hx
    split at hx
    · rename_i b ba cp hp
      simp at hx; subst hx
      split at ho
      · rename_i w' g l hg
        obtain ⟨vs, pre, tail, hc⟩ := hR.cells hg hp
        simp only [cond_eq_ite, beqB_eq, Bool.or_eq_true, Nat.ble_eq, Nat.blt_eq] at ho
        split at ho
        · rename_i hw
          have hstr : w = false → Blk h b (pre ++ (vs ++ tail)) := fun hf => hc.strict (by rcases hw with hw | hw; exact hw; rw [hf] at hw; simp at hw)
          split at ho
          · rename_i hroom
            split at ho
            · rename_i H1 hs
              split at ho
              · rename_i hfit
                simp at ho; obtain ⟨rfl, rfl⟩ := ho
                rw [countA_eq] at hfit
                obtain ⟨w1, w2⟩ := hR.wrote hg hp hc hy hs
                have hvl := concs_len hc.cs
                refine ⟨_, n, c, (vs.drop o).take (n * size), rfl, ?_, ?_, fun _ => .inr ?_, fun h => by omega⟩
                · have : (n + m) * size = n * size + m * size := Nat.add_mul _ _ _
                  simp; omega
                · intro i u hu
                  have hi := (List.getElem?_eq_some_iff.1 hu).1
                  simp at hi
                  rw [List.getElem?_take_of_lt (by omega), List.getElem?_drop] at hu
                  have := hc.cell hu
                  rw [Nat.add_assoc]; exact this
                · have e : ba + o + n * size = ba + (o + n * size) := by omega
                  refine ⟨_, _, _, rfl, hstr, hc.wide, ?_, fun h' hP hPW => ?_⟩
                  · simp [hc.pl]; omega
                  · rw [e] at hP hPW
                    exact hK ρ h' _ (Le.refl ρ) (w2 h' hP hPW) (by simp only [conc, hp])
              · simp at ho
            · simp at ho
          · rename_i hroom
            split at ho
            · rename_i hb
              split at ho
              · rename_i xs hxs
                split at ho
                · rename_i hsz
                  split at ho
                  · rename_i H1 hgr
                    simp at ho; obtain ⟨rfl, rfl⟩ := ho
                    obtain ⟨us, h2, h3, h4⟩ := hc.part hxs
                    refine ⟨_, n, c, us, rfl, h3, h4, fun h => absurd h hroom, fun _ => ⟨by omega, fun c'' b' h' hcc hg' hty => ?_⟩⟩
                    have hjo : concs ρ (joined xs ys) = some (us ++ yv) := by rw [joined_eq]; exact concs_app h2 hy
                    have hlen := concs_len hjo
                    obtain ⟨ρ', hl, hp', hR'⟩ := hR.newCellsT (cp := c'') hsz hgr hjo hg' (fun hne => by
                      rw [List.length_flatten, List.map_replicate, List.sum_replicate_nat, hz, ← hlen, List.length_append, h3, hyl, ← Nat.add_mul]
                      refine ⟨Nat.mul_le_mul_right _ hcc, ?_⟩
                      rw [← Nat.add_mul]; exact Nat.mul_le_mul_right _ (by omega)) (fun hne => ⟨hty hne, fun h0 => by rw [h0] at hz; rw [List.length_eq_zero_iff.1 hz]; simp⟩)
                    refine hK ρ' h' _ hl hR' ?_
                    simp only [conc, hp']
                    rw [if_pos (by omega)]
                    simp
                  · simp at ho
                · simp at ho
              · simp at ho
            · simp at ho
        · simp at ho
      · simp at ho
    · simp at hx
  · rename_i a o n k
    simp only [conc] at hx
    split at hx
    · rename_i b ba cp hp
      split at hx
      · rename_i hnk
        simp at hx; subst hx
        split at ho
        · rename_i w' g l hg
          obtain ⟨vs, pre, tail, hc⟩ := hR.cells hg hp
          simp only [cond_eq_ite, Bool.or_eq_true, Bool.and_eq_true, beqB_eq, Nat.beq_eq, Nat.ble_eq, Nat.blt_eq] at ho
          split at ho
          · rename_i hcond
            obtain ⟨⟨⟨⟨⟨hgs, hpos⟩, hpl⟩, hok⟩, hw⟩, hb⟩ := hcond
            have hsz : size < gM := by rw [← hgs]; exact Nat.mod_lt _ gM_pos
            have hstr : w = false → Blk h b (pre ++ (vs ++ tail)) := fun hf => hc.strict (by rcases hw with hw | hw; exact hw; rw [hf] at hw; simp at hw)
            obtain ⟨hcap, hcap2⟩ := hc.gz (by omega)
            rw [hgs] at hcap hcap2
            have hvl := concs_len hc.cs
            have hadd : (n + m) * size = n * size + m * size := Nat.add_mul _ _ _
            split at ho
            · rename_i hfit
              rw [countA_eq] at hfit
              split at ho
              · rename_i H1 hs
                simp at ho; obtain ⟨rfl, rfl⟩ := ho
                obtain ⟨w1, w2⟩ := hR.wrote hg hp hc hy hs
                have hle : n + m ≤ cp - k := by
                  have h5 : (k + (n + m)) * size ≤ cp * size := by rw [Nat.add_mul, ← hok]; omega
                  have := Nat.le_of_mul_le_mul_right h5 hpos
                  omega
                refine ⟨_, n, _, (vs.drop o).take (n * size), rfl, by simp; omega, ?_, fun _ => .inr ?_, fun h => by omega⟩
                · intro i u hu
                  have hi := (List.getElem?_eq_some_iff.1 hu).1
                  simp at hi
                  rw [List.getElem?_take_of_lt (by omega), List.getElem?_drop] at hu
                  have := hc.cell hu
                  rw [Nat.add_assoc]; exact this
                · have e : ba + o + n * size = ba + (o + n * size) := by omega
                  refine ⟨_, _, _, rfl, hstr, hc.wide, by simp [hc.pl]; omega, fun h' hP hPW => ?_⟩
                  rw [e] at hP hPW
                  exact hK ρ h' _ (Le.refl ρ) (w2 h' hP hPW) (by simp only [conc, hp]; rw [if_pos (by omega)])
              · simp at ho
            · rename_i hfit
              split at ho
              · rename_i xs hxs
                split at ho
                · rename_i H1 hkill
                  split at ho
                  · rename_i H2 hgr
                    simp at ho; obtain ⟨rfl, rfl⟩ := ho
                    obtain ⟨us, h2, h3, h4⟩ := hc.part hxs
                    have hjo : concs ρ (joined xs ys) = some (us ++ yv) := by rw [joined_eq]; exact concs_app h2 hy
                    have hlen := concs_len hjo
                    have hR1 : Rep F h0 ρ H1 h := hR.kill (getB_get hg) (by simp) hkill
                    obtain ⟨r0, hr0, hF0', hlt0, _⟩ := hR.obj a _ (getB_get hg) (by simp)
                    have hF0 := hF0' (wput_spec hkill).1
                    rw [hp] at hr0; simp at hr0; subst hr0
                    refine ⟨_, n, _, us, rfl, h3, h4, fun hle => .inr ?_, fun _ => ⟨by omega, fun c'' b' h' hcc hg' hty => ?_⟩⟩
                    · refine ⟨_, _, _, rfl, hstr, hc.wide, ?_, fun h' hPs hP => ?_⟩
                      · have h5 : (k + (n + m)) * size ≤ cp * size := Nat.mul_le_mul_right _ (by omega)
                        rw [Nat.add_mul, ← hok] at h5
                        simp [hc.pl]; omega
                      · -- in place
                        have hget := T.put_get (wput_spec hkill).2
                        have hobj : ∀ a' B' r', H1.get a' = some B' → B' ≠ .dead → ρ.pl a' = some r' → r'.1 ≠ b := by
                          intro a' B' r' hB' hd' hp'
                          rw [hget a'] at hB'
                          split at hB'
                          · simp at hB'; exact absurd hB'.symm hd'
                          · rename_i hne
                            exact hR.inj a' a B' _ r' _ hB' hd' (getB_get hg) (by simp) hp' hp hne
                        have h5 : (k + (n + m)) * size ≤ cp * size := Nat.mul_le_mul_right _ (by omega)
                        rw [Nat.add_mul, ← hok] at h5
                        obtain ⟨ρ', hl, hp', _, hR'⟩ := hR1.add (ba := ba + o) (cp := cp - k) default hgr hobj hF0 (by rw [hP.size]; exact hlt0) (by rw [hP.size]; exact Nat.le_refl _) (fun k' hk' _ => hP.old k' hk') (fun ρ' hl _ _ => by
                          have hus : us = (vs.drop o).take (n * size) := by
                            have := hc.part hxs
                            rw [dropped_eq] at hxs
                            obtain ⟨_, e2⟩ := taken_eq hxs
                            subst e2
                            have h6 := concs_take (n * size) (concs_drop o hc.cs)
                            rw [h2] at h6; simpa using h6
                          have hdl : o + n * size ≤ vs.length := by rw [hvl, ← countA_eq]; exact hpl
                          refine ⟨us ++ yv, pre ++ vs.take o, (vs ++ tail).drop (o + (n + m) * size), concs_mono hl _ _ hjo, by simp [hc.pl]; omega, fun _ => ?_, ?_, ?_⟩
                          · rw [gM_mod hsz, ← hlen, List.length_append, h3, hyl]
                            have e3 : (cp - k) * size = cp * size - o := by rw [Nat.sub_mul, hok]
                            simp
                            omega
                          · have e4 : pre ++ vs.take o ++ (us ++ yv ++ (vs ++ tail).drop (o + (n + m) * size)) = splice (pre ++ (vs ++ tail)) (ba + o + n * size) yv := by
                              have e5 : ba + o + n * size = pre.length + (o + n * size) := by rw [hc.pl]; omega
                              rw [e5, splice_pre, inplace_eq vs tail us yv o (n * size) hus hdl (by omega)]
                              have e6 : o + n * size + yv.length = o + (n + m) * size := by omega
                              rw [e6, List.append_assoc]
                            cases w with
                            | true => show BlkW h' b _; rw [e4]; exact hP.blk
                            | false => show Blk h' b _; rw [e4]; exact (hPs rfl).blk
                          · rw [gM_mod hsz, gM_div hsz]
                            intro hne
                            by_cases ht : g / gM = ty ∧ o = 0
                            · rw [if_pos ht] at hne ⊢
                              obtain ⟨t1, t2, _⟩ := hc.tag (by rw [ht.1]; exact hne)
                              rw [ht.1] at t2
                              exact ⟨by show ba + o = 0; omega, hP.ty _ t2, fun h0 => absurd h0 (by omega)⟩
                            · rw [if_neg ht] at hne; exact absurd rfl hne)
                        refine hK ρ' h' _ hl hR' ?_
                        simp only [conc, hp']
                        rw [if_pos (by omega)]
                        simp
                    · obtain ⟨ρ', hl, hp', hR'⟩ := hR1.newCellsT (cp := c'') hsz hgr hjo hg' (fun hne => by
                        rw [List.length_flatten, List.map_replicate, List.sum_replicate_nat, hz, ← hlen, List.length_append, h3, hyl, ← Nat.add_mul]
                        refine ⟨Nat.mul_le_mul_right _ hcc, ?_⟩
                        rw [← Nat.add_mul]; exact Nat.mul_le_mul_right _ (by omega)) (fun hne => by
                        by_cases ht : g / gM = ty ∧ o = 0
                        · rw [if_pos ht] at hne ⊢
                          exact ⟨hty hne, fun h0 => absurd h0 (by omega)⟩
                        · rw [if_neg ht] at hne; exact absurd rfl hne)
                      refine hK ρ' h' _ hl hR' ?_
                      simp only [conc, hp']
                      rw [if_pos (by omega)]
                      simp
                  · simp at ho
                · simp at ho
              · simp at ho
          · simp at ho
        · simp at ho
      · simp at hx
    · simp at hx
  · simp at ho

theorem appA_sound (hR : Rep F h0 ρ H h) {size bytes m : Nat} {z : List Value} {x : AV} {xv : Value} {ys : List AV} {yv : List Value} {a' : Option Addr} (hx : conc ρ x = some xv) (hz : z.length = size)
    (hy : concs ρ ys = some yv) (hyl : yv.length = m * size) (hys : Src h a' m yv) (h1 : onesA ys = true) (ho : appA H id size bytes 0 false x ys m = some (v, H')) (hK : Fine F h0 ρ H' v K) :
    ∃ a n c, xv = .slice a n c ∧ appP h K size bytes z a n c a' m := by
  obtain ⟨a, n, c, xs, h2, h3, h4, h5, h6⟩ := app_core hR hx hz hy hyl ho hK
  refine ⟨a, n, c, h2, xs, yv, h3, hyl, h4, hys, concs_ones hy h1, fun hle => ?_, fun hlt => ⟨(h6 hlt).1, fun c' b h' x y => (h6 hlt).2 c' b h' x y fun h0 => absurd rfl h0⟩⟩
  rcases h5 hle with ⟨rfl, hk⟩ | ⟨b, o, l, rfl, hb, _, hfit, hk⟩
  · exact hk
  · exact ⟨l, hb rfl, hfit, fun h' hP => hk h' (fun _ => hP) hP.w⟩

theorem appB_sound (hR : Rep F h0 ρ H h) {m e : Nat} {x : AV} {xv yw : Value} {ys : List AV} {yv : List Value} (hx : conc ρ x = some xv)
    (hy : concs ρ ys = some yv) (hyl : yv.length = m) (hys : SrcB h yw m yv) (h1 : onesA ys = true) (ho : appA H id 1 1 e true x ys m = some (v, H')) (hK : Fine F h0 ρ H' v K) :
    ∃ a n c, xv = .slice a n c ∧ appbP h K e a n c yw m := by
  obtain ⟨a, n, c, xs, h2, h3, h4, h5, h6⟩ := app_core (size := 1) (z := [.int .u8 0]) hR hx rfl hy (by omega) ho hK
  rw [Nat.mul_one] at h3
  refine ⟨a, n, c, h2, xs, yv, h3, hyl, h4, hys, concs_ones hy h1, fun hle => ?_, fun hlt => ?_⟩
  · rcases h5 hle with ⟨rfl, hk⟩ | ⟨b, o, l, rfl, _, hb, hfit, hk⟩
    · exact hk
    · refine ⟨l, hb, by omega, fun h' hP => hk h' (fun e => by simp at e) (by rw [Nat.mul_one]; exact hP)⟩
  · obtain ⟨h7, h8⟩ := h6 hlt
    rw [Nat.mul_one] at h7
    refine ⟨h7, fun c' b h' hc hg ht => h8 c' b h' hc ?_ fun _ => ht⟩
    have e : (List.replicate (c' - (n + m)) [Value.int .u8 0]).flatten = List.replicate (c' - (n + m)) (Value.int .u8 0) := List.flatten_replicate_singleton
    exact e.symm ▸ hg

end
end Go.Sx
