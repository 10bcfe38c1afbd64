/-
  The table of the commands' runs. Printed by a program (gentab.py).
-/
import Derived.Test.YtigolfakcblnjaaGreatDoorList
namespace Go.Proofs.YtigolfakcblnjaaGreatDoor
open Go Go.Sx

def pWord (w : List UInt8) (args : List AV) (S : AS) : Option (AV × AS) :=
  match args with
  | [.q 0] => some (.s w, S)
  | _ => none
def pKnown (args : List AV) (S : AS) : Option (AV × AS) :=
  match args with
  | [] => some (.b true, S)
  | _ => none
def tbW (w : List UInt8) : Tbl := (.node (.node (.node (.node (.node (.node .nil 11 (.prim pKnown) .nil) 17 Q.f17_ent .nil) 18 Q.f18_ent (.node (.node .nil 20 Q.f20_ent .nil) 34 Q.f34_ent .nil)) 36 Q.f36_ent (.node (.node (.node .nil 37 Q.f37_ent .nil) 38 (.prim (pWord w)) .nil) 39 Q.f39_ent (.node (.node .nil 52 Q.f52_ent .nil) 57 Q.f57_ent .nil))) 58 Q.f58_ent (.node (.node (.node (.node .nil 60 Q.f60_ent .nil) 61 Q.f61_ent .nil) 62 Q.f62_ent (.node (.node .nil 63 Q.f63_ent .nil) 64 Q.f64_ent .nil)) 65 Q.f65_ent (.node (.node (.node .nil 66 Q.f66_ent .nil) 67 Q.f67_ent .nil) 70 Q.f70_ent (.node (.node .nil 71 Q.f71_ent .nil) 72 Q.f72_ent .nil)))) 73 Q.f73_ent (.node (.node (.node (.node (.node .nil 74 Q.f74_ent .nil) 75 Q.f75_ent .nil) 76 Q.f76_ent (.node (.node .nil 77 Q.f77_ent .nil) 78 Q.f78_ent .nil)) 79 Q.f79_ent (.node (.node (.node .nil 87 Q.f87_ent .nil) 114 Q.f114_ent .nil) 115 Q.f115_ent (.node (.node .nil 116 Q.f116_ent .nil) 117 Q.f117_ent .nil))) 121 Q.f121_ent (.node (.node (.node (.node .nil 124 Q.f124_ent .nil) 125 Q.f125_ent .nil) 126 Q.f126_ent (.node (.node .nil 128 Q.f128_ent .nil) 129 Q.f129_ent .nil)) 142 Q.f142_ent (.node (.node (.node .nil 143 Q.f143_ent .nil) 169 Q.f169_ent .nil) 173 Q.f173_ent (.node .nil 191 Q.f191_ent .nil)))))
theorem tbW_ok {w : List UInt8} {oq : Nat → Value} {F : Nat → Prop} {h0 : Heap} (pw : EntOK Tryz.prog oq F h0 38 (.prim (pWord w))) (pk : EntOK Tryz.prog oq F h0 11 (.prim pKnown)) : TOK Tryz.prog oq F h0 (tbW w) := ⟨⟨⟨⟨⟨⟨trivial, pk, trivial⟩, Q.f17_ok _ _ _, trivial⟩, Q.f18_ok _ _ _, ⟨⟨trivial, Q.f20_ok _ _ _, trivial⟩, Q.f34_ok _ _ _, trivial⟩⟩, Q.f36_ok _ _ _, ⟨⟨⟨trivial, Q.f37_ok _ _ _, trivial⟩, pw, trivial⟩, Q.f39_ok _ _ _, ⟨⟨trivial, Q.f52_ok _ _ _, trivial⟩, Q.f57_ok _ _ _, trivial⟩⟩⟩, Q.f58_ok _ _ _, ⟨⟨⟨⟨trivial, Q.f60_ok _ _ _, trivial⟩, Q.f61_ok _ _ _, trivial⟩, Q.f62_ok _ _ _, ⟨⟨trivial, Q.f63_ok _ _ _, trivial⟩, Q.f64_ok _ _ _, trivial⟩⟩, Q.f65_ok _ _ _, ⟨⟨⟨trivial, Q.f66_ok _ _ _, trivial⟩, Q.f67_ok _ _ _, trivial⟩, Q.f70_ok _ _ _, ⟨⟨trivial, Q.f71_ok _ _ _, trivial⟩, Q.f72_ok _ _ _, trivial⟩⟩⟩⟩, Q.f73_ok _ _ _, ⟨⟨⟨⟨⟨trivial, Q.f74_ok _ _ _, trivial⟩, Q.f75_ok _ _ _, trivial⟩, Q.f76_ok _ _ _, ⟨⟨trivial, Q.f77_ok _ _ _, trivial⟩, Q.f78_ok _ _ _, trivial⟩⟩, Q.f79_ok _ _ _, ⟨⟨⟨trivial, Q.f87_ok _ _ _, trivial⟩, Q.f114_ok _ _ _, trivial⟩, Q.f115_ok _ _ _, ⟨⟨trivial, Q.f116_ok _ _ _, trivial⟩, Q.f117_ok _ _ _, trivial⟩⟩⟩, Q.f121_ok _ _ _, ⟨⟨⟨⟨trivial, Q.f124_ok _ _ _, trivial⟩, Q.f125_ok _ _ _, trivial⟩, Q.f126_ok _ _ _, ⟨⟨trivial, Q.f128_ok _ _ _, trivial⟩, Q.f129_ok _ _ _, trivial⟩⟩, Q.f142_ok _ _ _, ⟨⟨⟨trivial, Q.f143_ok _ _ _, trivial⟩, Q.f169_ok _ _ _, trivial⟩, Q.f173_ok _ _ _, ⟨trivial, Q.f191_ok _ _ _, trivial⟩⟩⟩⟩⟩
end Go.Proofs.YtigolfakcblnjaaGreatDoor
