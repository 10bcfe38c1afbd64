/-
  CommandsRun: commands done one behind the other have the replies, and make the keyspace, that the document says; for every list of things, every time, every list of commands.
-/
import Derived.Test.YtocgmipngoiieaaGreatDoorZXF
set_option linter.defProp false
set_option linter.unusedVariables false
set_option linter.unusedSimpArgs false
namespace Go.Proofs.YtocgmipngoiieaaGreatDoor
open Go Go.Sx Go.ChangeShapes Go.WideShapes Go.ChangeAt Go.RowKit
set_option maxRecDepth 100000 in
def aer{H : Type}{enc : TypeId × Value -> H}{W : World}{base : Nat}{sp : Nat -> Bool}{held : Bool}{v : Value}{d : DataW H}{ps : List MemPlace}{r : Reach}{b0 : Nat}(ak6 : Value.okWide Tryz.prog W r b0 23 v)(h : DataW.Trod enc Tryz.prog W base sp held 23 v d ps)(hw : kf Tryz.prog 23 d):∃l : List AX, SL BW W.heap v l ∧ GA W.heap l ∧ l.length < 4611686018427387904 ∧ ∀x ∈ l, EG x.A := by
 obtain ⟨n, hn⟩ := OJ Tryz.underlying23 ak6 h;obtain ⟨l, sl, g, nl⟩ := Ar (k := 1) (en := BW) (Good := λx => SL encS W.heap x.v x.A ∧ EG x.A) Tryz.underlying23 Kr Dd Fz (λn cs x h hw => by
  have hv : ∃v, cs = [v] := by
   rcases DataW.trod_slice Tryz.underlying26 h with ⟨aI, _⟩ | ⟨a, len, cap, elems, rest, n, _, aI, _⟩
   .exact ⟨_, aI⟩
   .exact ⟨_, aI⟩
  obtain ⟨v, rfl⟩ := hv;obtain ⟨A, s, g, nl⟩ := Ar (k := 1) (en := encS) Tryz.underlying26 Kr Dd bj (λn cs x h hw => SS h hw) h hw;have b : Tryz.prog.bytesOf 9 = 16 := by kernel_rfl
  rw [b] at nl;have := reachBytes_lt;exact ⟨⟨v, A⟩, Y, s, ⟨by show A.length < _; omega, λx hx => by have := g x hx; omega⟩⟩) hn hw
 have b : Tryz.prog.bytesOf 26 = 24 := by kernel_rfl
 rw [b] at nl;have := reachBytes_lt;exact ⟨l, sl, λx hx => (g x hx).1, by omega, λx hx => (g x hx).2⟩
def X6 : ∀t ∈ Tryz.f3.params.toList, Tryz.prog.readableRec t = true ∧ t < Tryz.prog.types.size := by
 rw [Tryz.params3];intro t ht;have ht : t ∈ [22, 2, 23] := ht;rcases ak3.1 ht with h | h
 .subst h; exact ⟨Kr, amy Kr⟩
 rcases ak3.1 h with h | h
 .subst h; exact ⟨Kr, amy Kr⟩
 have h := alE.1 h;subst h; exact ⟨Kr, amy Kr⟩
set_option maxRecDepth 100000 in
def X4(H : Type)(enc : TypeId × Value -> H)(W : World)(base : Nat)(args : Array Value)(ds gs : List (DataW H))(before : List MemPlace)(ak6 : ∀(j : Nat)t v, Tryz.f3.params[j]? = some t -> args[j]? = some v -> Value.okWide Tryz.prog W .any base t v)(hW : DataW.Whole enc Tryz.prog Tryz.f3.params.toList Rows.commandsRunSpec.vars false W args.toList ds gs before)(hL : laidMetH Tryz.prog alK W)(aS : (DataW.weightsEach Tryz.prog (Tryz.f3.params.toList ++ (OpenSpec.ofChange Rows.commandsRunSpec).bare.plain.varTypes Tryz.prog) (ds ++ gs)).all (· <= reachBytes) = true):Calls Tryz.prog 3 args W λe W' => ∃v, e = .returned v ∧ Rows.commandsRunSpec.post enc Tryz.prog Tryz.f3 false true false false W args v W' := by
 refine adq (tb := 4) laidOut X6 Y Tryz.underlying4 Y
  (λl hl => by
   rw [Tryz.params3] at hl
   match l, hl with
   |[_, _, _], _ => rfl) hW ?_
 obtain ⟨p, q, hA, hV, _, _, _⟩ := hW;obtain ⟨rfl, rfl⟩ := trodVars_none hV;rw [Tryz.params3] at hA ak6 aS;obtain ⟨v0, vs0, d0, ds0, p0, q0, wF, rfl, rfl, h0, r0⟩ := trodAll_cons hA;obtain ⟨v1, vs1, d1, dh, p1, q1, rfl, rfl, rfl, h1, r1⟩ := trodAll_cons r0;obtain ⟨v2, vs2, d2, pH, p2, q2, rfl, rfl, rfl, h2, r2⟩ := trodAll_cons r1;obtain ⟨rfl, rfl, rfl⟩ := trodAll_nil r2;obtain rfl : args = #[v0, v1, v2] := by cases args; simp_all
 obtain ⟨l, sl, g, f, u7, gA⟩ := aet (ak6 0 22 v0 Y Y) h0 (VM aS (j := 0) Y Y);obtain ⟨now, rfl, hn⟩ := ac0 Tryz.underlying2 (ak6 1 2 v1 Y Y);obtain ⟨all, sa, ga, la, fa⟩ := aer (ak6 2 23 v2 Y Y) h2 (VM aS (j := 2) Y Y);exact V' sl sa g ga f la fa hn u7 gA (adi hL) (ahu hL)
noncomputable def Fq : Array Value := #[.slice none 0 0, .int .i64 0, .slice none 0 0]
def X8(os : Os){H : Type}(enc : TypeId × Value -> H): ∃places, DataW.whole enc Tryz.prog ((Lg os).forCall (λ_ _ => 0) ⟨#[], Fq, []⟩).memory Tryz.f3.params.toList Rows.commandsRunSpec.vars false Fq.toList 8 =
  some ([.nil, .lit (.int .i64 0), .nil], [], places) :=
 ⟨[], by kernel_rfl⟩
set_option maxRecDepth 100000 in
def X5(os : Os)(started : os.Started)(H : Type)(enc : TypeId × Value -> H)(F : Stop.Interp):ReturnsInHanded {} Tryz.checked os 3 .any ((OpenSpec.ofChange Rows.commandsRunSpec).preRow enc Tryz.prog Tryz.f3 Rows.commandsRunRow.domain false Rows.commandsRunRow.laid) (((OpenSpec.ofChange Rows.commandsRunSpec).at F).post enc Tryz.prog Tryz.f3 false true false false) := by
 obtain ⟨places, hx⟩ := X8 os enc;refine returnsInHanded_of_row (C := Tryz.checked) (s := OpenSpec.ofChange Rows.commandsRunSpec) own started Kr Tryz.func3
  (witness_row_at (enc := enc) (C := Tryz.checked) false (Lg os) Fq Y Kr Kr Kr
   (OpenSpec.preRow_of_cond 8 hx Kr (λk hk => by cases hk) Kr (laid_met os Fq))) ?_
 intro W base args ds gs before ak6 hW _ _ aS hL _ _;exact X4 H enc W base args ds gs before ak6 hW hL aS
def WU{a b : Bool}(h1 : a = true)(h2 : b = true): (a && b) = true := by rw [h1, h2]; rfl
set_option maxHeartbeats 8000000 in
def X3 : joinedFacts Tryz.prog 3 Tryz.f3 (OpenSpec.ofChange Rows.commandsRunSpec).bare Rows.commandsRunRow = true := by
 unfold joinedFacts
 iterate 31 refine WU ?_ (by as_aux_lemma => kernel_rfl)
 as_aux_lemma => kernel_rfl
def X9 : Rows.CommandsRunSaid :=
 OpenClaim.holds_of_cond 3 Tryz.f3 Y Y Y Y Y Y Y ⟨Y, Y, Y, Y, Y⟩ Y Y Y Y Y Kr Tryz.func3 X3
  (amy Kr) (by unfold Func.isWrapper; first | (rw [ak4 (by decide +kernel)]; kernel_rfl) | (rw [akZ (by decide +kernel)]; exact ⟨Y, Y⟩))
  (λos started H enc _ F => by rw [OpenClaim.pre_eq_preRow]; exact X5 os started H enc F)
def X7(f : FuncId)(fn : Func) (hf : Tryz.pinned.checked.prog.funcNamed "tabor/taborlaw10.CommandsRun" = some f) (fz : Tryz.pinned.checked.prog.funcs[f]? = some fn) :
  true = Tryz.pinned.checked.prog.looks [] ∧ ∀(j : Nat)t, fn.params[j]? = some t -> Tryz.pinned.checked.prog.wantsStandIn t = false := by
 obtain rfl : f = 3 := amu ((show Tryz.prog.funcNamed "tabor/taborlaw10.CommandsRun" = some 3 by kernel_rfl).symm.trans hf) |>.symm;obtain rfl : fn = Tryz.f3 := (amu (Tryz.func3.symm.trans fz)).symm;refine ⟨Kr, λj t ht => ?_⟩;rw [Tryz.params3] at ht;have ht : t ∈ [22, 2, 23] := by simpa using Array.mem_of_getElem? ht
 rcases ak3.1 ht with h | h
 .subst h; exact (show Tryz.prog.wantsStandIn 22 = false by kernel_rfl)
 rcases ak3.1 h with h | h
 .subst h; exact (show Tryz.prog.wantsStandIn 2 = false by kernel_rfl)
 have h := alE.1 h;subst h; exact (show Tryz.prog.wantsStandIn 23 = false by kernel_rfl)
theorem cr_card : Rows.CommandsRunCardSaid :=
 Claim7.holds_tied_plain_at .later [] _ _ _ _ X9 (λ_ h => by cases h) Kr (λ_ h => by cases h) commandsRun_row_tie Y ⟨Y, Y⟩ Kr Y X7 Kr
#print axioms cr_card
end Go.Proofs.YtocgmipngoiieaaGreatDoor
