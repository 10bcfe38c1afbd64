/-
  Runs of simplified code, once more: each arm closed, so that the kernel copies little. The same run.
-/
import Derived.Test.YtaeabfemedamhaaGreatDoorSxYK
namespace Go.Sx
open Go

noncomputable def aopF (op : SOp) : Program → AE → AH → Nat → Option (AV × AH) :=
  @SOp.rec (fun _ => Program → AE → AH → Nat → Option (AV × AH))
  (fun x _ E H _ => match aev H E x with
    | some v => some (v, H)
    | none => none)
  (fun c a b _ E H _ => match aev H E c, aev H E a, aev H E b with
    | some (.b t), some x, some y => some (bif t then x else y, H)
    | _, _, _ => none)
  (fun z _ _ H id => match avals z with
    | some l => match grow H id (.cells false 0 l) with
      | some H' => some (.p id 0, H')
      | none => none
    | none => none)
  (fun x _ E H id => match aev H E x with
    | some v => match acells v with
      | some l => match grow H id (.cells false 0 l) with
        | some H' => some (.p id 0, H')
        | none => none
      | none => none
    | none => none)
  (fun z ps xs _ E H _ => match avals z, aevs H E xs with
    | some z, some vs => match fillA z ps vs with
      | some l => some (.g l, H)
      | none => none
    | _, _ => none)
  (fun z n ps xs _ E H id => match avals z, aevs H E xs with
    | some z, some vs => match fillA z ps vs with
      | some l => match grow H id (.cells false 0 l) with
        | some H' => some (.sl id 0 n n, H')
        | none => none
      | none => none
    | _, _ => none)
  (fun x _ E H _ => match aev H E x with
    | some (.p a o) => match getB H a with
      | some (_, _, l) => match nth l o with
        | some v => some (v, H)
        | none => none
      | none => none
    | _ => none)
  (fun n x _ E H _ => match aev H E x with
    | some (.p a o) => match getB H a with
      | some (_, _, l) => match taken (dropped l o) n with
        | some vs => some (.g vs, H)
        | none => none
      | none => none
    | _ => none)
  (fun n x v _ E H _ => match aev H E x, aev H E v with
    | some (.p a o), some v => match getB H a, acells v with
      | some (false, g, l), some vs => bif Nat.beq (countA vs) n && onesA vs then
          match setB H a false g l o vs with
          | some H' => some (.t [], H')
          | none => none
        else none
      | _, _ => none
    | _, _ => none)
  (fun x _ E H _ => match aev H E x with
    | some (.p a o) => some (.p a o, H)
    | some (.f f fi c) => some (.f f fi c, H)
    | some (.y l) => some (.y l, H)
    | _ => none)
  (fun op x y _ E H _ => match aev H E x, aev H E y with
    | some (.i k a), some (.i k' b) => bif keq k k' then some (mkI k (arithF op k a b), H) else none
    | _, _ => none)
  (fun op x y _ E H _ => match aev H E x, aev H E y with
    | some (.i k a), some (.i k' b) => bif keq k k' then some (mkI k (bitw op k a b), H) else none
    | _, _ => none)
  (fun op x y _ E H _ => match aev H E x, aev H E y with
    | some (.i k a), some (.i k' b) => bif keq k k' then match acmpI op a b with
        | some t => some (.b t, H)
        | none => none
      else none
    | some (.s a), some (.s b) => match acmpS op a b with
      | some t => some (.b t, H)
      | none => none
    | _, _ => none)
  (fun x y _ E H _ => match aev H E x, aev H E y with
    | some (.s a), some (.s b) => bif Nat.blt (countA a + countA b) 9223372036854775808 then some (.s (joined a b), H) else none
    | _, _ => none)
  (fun neg x y _ E H _ => match aev H E x, aev H E y with
    | some .np, some .np => some (.b (!neg), H)
    | some .np, some (.p _ _) => some (.b neg, H)
    | some (.p _ _), some .np => some (.b neg, H)
    | some (.p a o), some (.p a' o') => match getB H a, getB H a' with
      | some (false, _, _ :: _), some (false, _, _ :: _) => some (eqResI neg (Nat.beq a a' && Nat.beq o o'), H)
      | _, _ => none
    | _, _ => none)
  (fun kd neg x _ E H _ => match aev H E x with
    | some v => match anil kd v with
      | some r => some (eqResI neg r, H)
      | none => none
    | none => none)
  (fun neg ks x y _ E H _ => match aev H E x, aev H E y with
    | some (.g a), some (.g b) => bif afitsAll ks a && afitsAll ks b then some (eqResI neg (aeqs a b), H) else none
    | _, _ => none)
  (fun op x _ E H _ => match op, aev H E x with
    | .not, some (.b t) => some (.b (!t), H)
    | .neg, some (.i k a) => some (mkI k (wrapF k (0 - a)), H)
    | .xor, some (.i k a) => some (mkI k (bitw .xor k (ones k) a), H)
    | _, _ => none)
  (fun off x _ E H _ => match aev H E x with
    | some (.p a o) => some (.p a (o + off), H)
    | _ => none)
  (fun off x _ E H _ => match aev H E x with
    | some (.g l) => match nth l off with
      | some v => some (v, H)
      | none => none
    | _ => none)
  (fun off n x _ E H _ => match aev H E x with
    | some (.g l) => bif Nat.ble (off + n) (countA l) then match taken (dropped l off) n with
        | some vs => some (.g vs, H)
        | none => none
      else none
    | _ => none)
  (fun len size x i _ E H _ => match aev H E x, aev H E i with
    | some (.p a o), some (.i _ (.ofNat j)) => bif Nat.blt j len then some (.p a (o + j * size), H) else none
    | _, _ => none)
  (fun size x i _ E H _ => match aev H E x, aev H E i with
    | some (.sl a o n _), some (.i _ (.ofNat j)) => bif Nat.blt j n then some (.p a (o + j * size), H) else none
    | some (.su a o n _), some (.i _ (.ofNat j)) => bif Nat.blt j n then some (.p a (o + j * size), H) else none
    | _, _ => none)
  (fun x i _ E H _ => match aev H E x, aev H E i with
    | some (.s l), some (.i _ (.ofNat j)) => match nth l j with
      | some c => some (mkI .u8 (.ofNat c.toNat), H)
      | none => none
    | _, _ => none)
  (fun size x lo hi _ E H _ => match aev H E x with
    | some v => match alen v with
      | some n => match abnd H E lo 0, abnd H E hi n with
        | some (.ofNat l), some (.ofNat m) => match acut size v l m with
          | some u => some (u, H)
          | none => none
        | _, _ => none
      | none => none
    | none => none)
  (fun x lo hi _ E H _ => match aev H E x with
    | some (.s s) => match abnd H E lo 0, abnd H E hi (countA s) with
      | some (.ofNat l), some (.ofNat m) => bif Nat.ble l m && Nat.ble m (countA s) then match taken (dropped s l) (m - l) with
          | some r => some (.s r, H)
          | none => none
        else none
      | _, _ => none
    | _ => none)
  (fun x _ E H _ => match aev H E x with
    | some v => match alen v with
      | some n => some (.i .i64 (.ofNat n), H)
      | none => none
    | none => none)
  (fun x _ E H _ => match aev H E x with
    | some .nm => some (.i .i64 0, H)
    | some (.m a) => match H.get a with
      | some (.map es _) => some (.i .i64 (.ofNat (countA es)), H)
      | _ => none
    | _ => none)
  (fun bytes z x y _ E H id => match avals z, aev H E x, aev H E y with
    | some z, some (.i .i64 (.ofNat n)), some (.i .i64 (.ofNat c)) => bif Nat.ble n c && Nat.ble (bytes * c) 281474976710656 && Nat.blt c 9223372036854775808 then
        match grow H id (.cells false 0 (copies c z)) with
        | some H' => some (.sl id 0 n c, H')
        | none => none
      else none
    | _, _, _ => none)
  (fun _ _ H id => match grow H id (.map [] 0) with
    | some H' => some (.m id, H')
    | none => none)
  (fun kd zero ok m k _ E H _ => match avalg zero, aev H E m, aev H E k with
    | some z, some .nm, some k => bif afits kd k then some (bif ok then .t [z, .b false] else z, H) else none
    | some z, some (.m a), some k => match H.get a with
      | some (.map es _) => bif afits kd k && afitsM kd es then
          match afind k es 0 with
          | some (_, v) => some (bif ok then .t [v, .b true] else v, H)
          | none => some (bif ok then .t [z, .b false] else z, H)
        else none
      | _ => none
    | _, _, _ => none)
  (fun kd m k v _ E H _ => match aev H E m, aev H E k, aev H E v with
    | some (.m a), some k, some v => match H.get a with
      | some (.map es c) => bif afits kd k && afitsM kd es then
          match afind k es 0 with
          | some (i, _) => match T.wput H a (some (.map (asetM v es i) c)) with
            | some H' => some (.t [], H')
            | none => none
          | none => match T.wput H a (some (.map (joined es [(k, v, c)]) (c + 1))) with
            | some H' => some (.t [], H')
            | none => none
        else none
      | _ => none
    | _, _, _ => none)
  (fun kd m k _ E H _ => match aev H E m, aev H E k with
    | some .nm, some k => bif afits kd k then some (.t [], H) else none
    | some (.m a), some k => match H.get a with
      | some (.map es c) => bif afits kd k && afitsM kd es then
          match afind k es 0 with
          | some (i, _) => match T.wput H a (some (.map (adelM es i) c)) with
            | some H' => some (.t [], H')
            | none => none
          | none => match T.wput H a (some (.map es c)) with
            | some H' => some (.t [], H')
            | none => none
        else none
      | _ => none
    | _, _ => none)
  (fun _ _ _ _ _ _ => none)
  (fun _ _ _ _ _ _ => none)
  (fun _ _ _ _ _ _ => none)
  (fun _ _ _ _ _ _ => none)
  (fun k left n x _ E H _ => match aev H E x with
    | some (.i k' a) => bif keq k' k then some (mkI k (bif left then wrapF k (a * 2 ^ n) else a.fdiv (2 ^ n)), H) else none
    | _ => none)
  (fun neg x y _ E H _ => match aev H E x, aev H E y with
    | some (.b a), some (.b b) => some (eqResI neg (beqB a b), H)
    | _, _ => none)
  (fun x _ E H _ => match aev H E x with
    | some (.s l) => some (.i .i64 (.ofNat (countA l)), H)
    | _ => none)
  (fun x _ E H _ => match aev H E x with
    | some (.s l) => some (.s l, H)
    | _ => none)
  (fun x _ E H _ => match aev H E x with
    | some v => match alen v with
      | some n => match readS H v n 1 with
        | some vs => match abytes vs with
          | some bs => some (.s bs, H)
          | none => none
        | none => none
      | none => none
    | none => none)
  (fun x y _ E H _ => match aev H E x, aev H E y with
    | some (.i k a), some (.i k' b) => bif keq k k' && !ieq b 0 then some (mkI k (wrapF k (a.tdiv b)), H) else none
    | _, _ => none)
  (fun x y _ E H _ => match aev H E x, aev H E y with
    | some (.i k a), some (.i k' b) => bif keq k k' && !ieq b 0 then some (mkI k (a.tmod b), H) else none
    | _, _ => none)
  (fun size bytes z x y _ E H id => match aev H E x, aev H E y with
    | some v, some u => match alen u with
      | some m => match readS H u m size with
        | some ys => bif onesA ys && Nat.beq (countA z) size then appA H id size bytes 0 false v ys m else none
        | none => none
      | none => none
    | _, _ => none)
  (fun x i _ E H _ => match aev H E x with
    | some (.t l) => match nth l i with
      | some v => some (v, H)
      | none => none
    | _ => none)
  (fun f a c _ E H _ => match aevs H E a, aevs H E c with
    | some x, some y => some (.f f x y, H)
    | _, _ => none)
  (fun k x _ E H _ => match aev H E x with
    | some (.i _ a) => some (mkI k (wrapF k a), H)
    | _ => none)
  (fun x y _ E H _ => match aev H E x, aev H E y with
    | some (.i k a), some (.i k' b) => bif keq k k' then some (.i k (bif ilt b a then b else a), H) else none
    | _, _ => none)
  (fun x y _ E H _ => match aev H E x, aev H E y with
    | some (.i k a), some (.i k' b) => bif keq k k' then some (.i k (bif ilt a b then b else a), H) else none
    | _, _ => none)
  (fun t x _ E H _ => match aev H E x with
    | some v => some (.e t v, H)
    | none => none)
  (fun x _ E H _ => match aev H E x with
    | some .ns => some (.i .i64 0, H)
    | some (.sl _ _ _ c) => some (.i .i64 (.ofNat c), H)
    | _ => none)
  (fun size x lo hi mx _ E H _ => match aev H E x with
    | some (.sl a o _ c) => match abnd H E lo 0, abnd H E (some hi) 0, abnd H E (some mx) 0 with
      | some (.ofNat l), some (.ofNat m), some (.ofNat k) => bif Nat.ble l m && Nat.ble m k && Nat.ble k c then some (.sl a (bif Nat.blt l k then o + l * size else o) (m - l) (k - l), H) else none
      | _, _, _ => none
    | some (.su a o n _) => match abnd H E lo 0, abnd H E (some hi) 0, abnd H E (some mx) 0 with
      | some (.ofNat l), some (.ofNat m), some (.ofNat k) => bif Nat.ble l m && Nat.ble m k && Nat.ble k n then some (.sl a (bif Nat.blt l k then o + l * size else o) (m - l) (k - l), H) else none
      | _, _, _ => none
    | _ => none)
  (fun size x y _ E H _ => match aev H E x, aev H E y with
    | some v, some u => match alen v, alen u with
      | some n, some m => match readS H u (min m n) size with
        | some ys => bif Nat.beq (countA ys) 0 then some (.i .i64 (.ofNat (min m n)), H) else
          match v with
          | .sl a o _ _ | .su a o _ _ => match getB H a with
            | some (false, g, l) => bif onesA ys then match setB H a false g l o ys with
                | some H' => some (.i .i64 (.ofNat (min m n)), H')
                | none => none
              else none
            | _ => none
          | _ => none
        | none => none
      | _, _ => none
    | _, _ => none)
  (fun z x _ E H _ => match avals z, aev H E x with
    | some z, some v => match alen v with
      | some n => bif Nat.beq (countA (copies n z)) 0 then some (.t [], H) else
        match v with
        | .sl a o _ _ | .su a o _ _ => match getB H a with
          | some (false, g, l) => bif onesA (copies n z) then match setB H a false g l o (copies n z) with
              | some H' => some (.t [], H')
              | none => none
            else none
          | _ => none
        | _ => none
      | none => none
    | _, _ => none)
  (fun size bytes z x y _ E H id => match avals z, aev H E x, aev H E y with
    | some z, some .ns, some (.i .i64 (.ofNat m)) => bif Nat.beq (countA z) size && Nat.blt size gM && Nat.blt m 9223372036854775808 && Nat.blt 0 m && Nat.ble ((m * 2 + 768) * bytes) 281474976710656 then
        match grow H id (.cells false size (copies m z)) with
        | some H' => some (.su id 0 m 0, H')
        | none => none
      else none
    | some z, some (.sl a o n c), some (.i .i64 (.ofNat m)) => bif Nat.beq (countA z) size && Nat.blt size gM && Nat.blt m 9223372036854775808 && Nat.blt c (n + m) && Nat.ble (((n + m) * 2 + 768) * bytes) 281474976710656 then
        match getB H a with
        | some (_, _, l) => match taken (dropped l o) (n * size) with
          | some xs => match grow H id (.cells false size (joined xs (copies m z))) with
            | some H' => some (.su id 0 (n + m) 0, H')
            | none => none
          | none => none
        | none => none
      else none
    | _, _, _ => none)
  (fun _ _ _ _ _ _ => none)
  (fun size bytes z y _ E H id => match aev H E y with
    | some u => match alen u with
      | some m => match readS H u m size with
        | some ys => bif onesA ys && Nat.beq (countA z) size then appA H id size bytes 0 false .ns ys m else none
        | none => none
      | none => none
    | none => none)
  (fun n size x i _ E H _ => match aev H E x, aev H E i with
    | some (.g l), some (.i _ (.ofNat j)) => bif Nat.blt j n then match nth l (j * size) with
        | some v => some (v, H)
        | none => none
      else none
    | _, _ => none)
  (fun n size x lo hi _ E H _ => match aev H E x with
    | some (.p a o) => match abnd H E lo 0, abnd H E hi n with
      | some (.ofNat l), some (.ofNat m) => bif Nat.ble l m && Nat.ble m n then some (.sl a (bif Nat.blt l n then o + l * size else o) (m - l) (n - l), H) else none
      | _, _ => none
    | _ => none)
  (fun k left x y _ E H _ => match aev H E x, aev H E y with
    | some (.i k' a), some (.i _ (.ofNat n)) => bif keq k' k then some (mkI k (bif left then wrapF k (a * 2 ^ (min n k.bits)) else a.fdiv (2 ^ (min n k.bits))), H) else none
    | _, _ => none)
  (fun t zero ok x _ E H _ => match avalg zero, aev H E x with
    | some z, some .ni => bif ok then some (.t [z, .b false], H) else none
    | some z, some (.e u v) => bif Nat.beq u t then some (bif ok then .t [v, .b true] else v, H) else bif ok then some (.t [z, .b false], H) else none
    | none, some (.e u v) => bif Nat.beq u t && !ok then some (v, H) else none
    | _, _ => none)
  (fun neg x y P E H _ => match aev H E x, aev H E y with
    | some .ni, some (.e _ _) => some (.b neg, H)
    | some (.e _ _), some .ni => some (.b neg, H)
    | some (.e t v), some (.e u w) => bif Nat.beq t u then match kdE P t with
        | some kd => bif afits kd v && afits kd w then some (eqResI neg (aeq v w), H) else none
        | none => none
      else some (.b neg, H)
    | _, _ => none)
  (fun _ _ _ _ _ => none)
  (fun x _ E H id => match aev H E x with
    | some (.s l) => match grow H id (.cells true 1 (abyteCells l)) with
      | some H' => some (.su id 0 (countA l) 0, H')
      | none => none
    | _ => none)
  (fun x v _ E H _ => match aev H E x, aev H E v with
    | some (.p a o), some v => match getB H a, acells v with
      | some (_w, g, l), some vs => bif Nat.beq (countA vs) 1 && onesA vs then
          match setB H a true g l o vs with
          | some H' => some (.t [], H')
          | none => none
        else none
      | _, _ => none
    | _, _ => none)
  (fun x y _ E H _ => match aev H E x, aev H E y with
    | some v, some u => match alen v, alenB u with
      | some n, some m => match readB H u (min m n) with
        | some ys => bif Nat.beq (countA ys) 0 then some (.i .i64 (.ofNat (min m n)), H) else
          match v with
          | .sl a o _ _ | .su a o _ _ => match getB H a with
            | some (_w, g, l) => bif onesA ys then match setB H a true g l o ys with
                | some H' => some (.i .i64 (.ofNat (min m n)), H')
                | none => none
              else none
            | _ => none
          | _ => none
        | none => none
      | _, _ => none
    | _, _ => none)
  (fun e x y _ E H id => match aev H E x, aev H E y with
    | some v, some u => match alenB u with
      | some m => match readB H u m with
        | some ys => bif onesA ys then appA H id 1 1 e true v ys m else none
        | none => none
      | none => none
    | _, _ => none)
  (fun x _ E H id => match aev H E x with
    | some .nm => match grow H id (.iter none 0 [] 0) with
      | some H' => some (.p id 0, H')
      | none => none
    | some (.m a) => match H.get a with
      | some (.map _ c) => match grow H id (.iter (some a) c [] c) with
        | some H' => some (.p id 0, H')
        | none => none
      | _ => none
    | _ => none)
  (fun x _ E H _ => match aev H E x with
    | some (.p r 0) => match H.get r with
      | some (.iter none _ _ _) => some (.t [.b false], H)
      | some (.iter (some a) since seen last) => match H.get a with
        | some (.map es c) => match aleft since seen es with
          | some [] => bif Nat.ble since last then some (.t [.b false], H) else none
          | some [e] => bif Nat.ble since last then match T.wput H r (some (.iter (some a) since (joined seen [e.2.2]) c)) with
              | some H' => some (.t [.b true, e.1, e.2.1], H')
              | none => none
            else none
          | _ => none
        | _ => none
      | _ => none
    | _ => none)
  (fun x _ E H _ => match aev H E x with
    | some (.p r 0) => match H.get r with
      | some (.iter (some a) _ [b] last) => match H.get a with
        | some (.map es c) => bif Nat.beq c last then match abyBorn b es with
            | some e => some (.t [e.1, e.2.1], H)
            | none => none
          else none
        | _ => none
      | _ => none
    | _ => none)
  (fun x _ E H _ => match aev H E x with
    | some (.sl a o n c) => match getB H a with
      | some (_, g, l) => match T.wput H a (some (.cells true g l)) with
        | some H' => some (.sl a o n c, H')
        | none => none
      | none => none
    | some (.su a o n k) => match getB H a with
      | some (_, g, l) => match T.wput H a (some (.cells true g l)) with
        | some H' => some (.su a o n k, H')
        | none => none
      | none => none
    | _ => none)
  (fun n size x i _ E H _ => match aev H E x, aev H E i with
    | some (.g l), some (.i _ (.ofNat j)) => bif Nat.blt j n && Nat.ble (j * size + size) (countA l) then match taken (dropped l (j * size)) size with
        | some vs => some (.g vs, H)
        | none => none
      else none
    | _, _ => none)
  (fun x _ E H _ => match aev H E x with
    | some .nm => some (.t [], H)
    | some (.m a) => match H.get a with
      | some (.map _ c) => match T.wput H a (some (.map [] c)) with
        | some H' => some (.t [], H')
        | none => none
      | _ => none
    | _ => none)
  (fun t z _ _ H id => match avals z with
    | some l => match grow H id (.cells false (gM * t) l) with
      | some H' => some (.p id 0, H')
      | none => none
    | none => none)
  (fun x _ E H _ => match aev H E x with
    | some (.p a o) => match getB H a with
      | some (_, _, l) => bif Nat.blt o (countA l) then some (.p a o, H) else none
      | none => none
    | _ => none)
  (fun t n x _ E H _ => match aev H E x with
    | some (.p a 0) => match getB H a with
      | some (_, g, l) => bif Nat.beq g (gM * t) && Nat.blt 0 t && Nat.beq (countA l) n then some (.p a 0, H) else none
      | none => none
    | _ => none)
  (fun x _ E H _ => match aev H E x with
    | some .ns => some (.np, H)
    | some (.sl a o _ c) => bif Nat.blt 0 c then some (.p a o, H) else none
    | some (.su a o n _) => bif Nat.blt 0 n then some (.p a o, H) else none
    | _ => none)
  (fun e x n _ E H _ => match aev H E x, aev H E n with
    | some .np, some (.i .i64 (.ofNat 0)) => some (.s [], H)
    | some (.p a o), some (.i .i64 (.ofNat m)) => bif Nat.beq m 0 then some (.s [], H) else
      match getB H a with
      | some (_, g, l) => bif Nat.beq o 0 && Nat.beq (g / gM) e && Nat.blt 0 e && Nat.blt m 9223372036854775808 then
          match taken l m with
          | some vs => match abytes vs with
            | some bs => match T.wput H a (some .dead) with
              | some H' => some (.s bs, H')
              | none => none
            | none => none
          | none => none
        else none
      | none => none
    | _, _ => none)
  (fun x _ E H id => match aev H E x with
    | some (.s l) => match grow H id (.siter l 0) with
      | some H' => some (.p id 0, H')
      | none => none
    | _ => none)
  (fun x _ E H _ => match aev H E x with
    | some (.p r 0) => match H.get r with
      | some (.siter l pos) => match nth l pos with
        | some c => bif Nat.blt c.toNat 128 then match T.wput H r (some (.siter l (pos + 1))) with
            | some H' => some (.t [.b true, mkI .i64 (.ofNat pos), mkI .i32 (.ofNat c.toNat)], H')
            | none => none
          else none
        | none => bif Nat.ble (countA l) pos then some (.t [.b false], H) else none
      | _ => none
    | _ => none)
  op
theorem aopF_eq (op : SOp) (P : Program) (E : AE) (H : AH) (id : Nat) : aopF op P E H id = aop P E H id op := by cases op <;> rfl

noncomputable def plainF (op : SOp) (P : Program) (_ : Tbl) (_ : Rec) (_ : AY) (E : AE) (S : AS) (id N' : Nat) (d : Option Nat) : Option OR :=
  match aopF op P E S.H id with
  | some (v, H') => match aupd E d v with
    | some E' => some (.ok E' ⟨H', N'⟩)
    | none => none
  | none => none
noncomputable def arunF (op : SOp) : SOp → Program → Tbl → Rec → AY → AE → AS → Nat → Nat → Option Nat → Option OR :=
  @SOp.rec (fun _ => SOp → Program → Tbl → Rec → AY → AE → AS → Nat → Nat → Option Nat → Option OR)
  (fun _ => plainF)
  (fun _ _ _ => plainF)
  (fun _ => plainF)
  (fun _ => plainF)
  (fun _ _ _ => plainF)
  (fun _ _ _ _ => plainF)
  (fun _ => plainF)
  (fun _ _ => plainF)
  (fun _ _ _ => plainF)
  (fun _ => plainF)
  (fun _ _ _ => plainF)
  (fun _ _ _ => plainF)
  (fun _ _ _ => plainF)
  (fun _ _ => plainF)
  (fun _ _ _ => plainF)
  (fun _ _ _ => plainF)
  (fun _ _ _ _ => plainF)
  (fun _ _ => plainF)
  (fun _ _ => plainF)
  (fun _ _ => plainF)
  (fun _ _ _ => plainF)
  (fun _ _ _ _ => plainF)
  (fun _ _ _ => plainF)
  (fun _ _ => plainF)
  (fun _ _ _ _ => plainF)
  (fun _ _ _ => plainF)
  (fun _ => plainF)
  (fun _ => plainF)
  (fun _ _ _ _ => plainF)
  plainF
  (fun _ _ _ _ _ => plainF)
  (fun _ _ _ _ => plainF)
  (fun _ _ _ => plainF)
  (fun f xs _ _ tb rc Y E S _ _ d => match aevs S.H E xs with
    | some vs => putR d E (acall tb rc Y f vs S)
    | none => none)
  (fun x xs _ _ tb rc Y E S _ _ d => match aev S.H E x, aevs S.H E xs with
    | some (.f f fi cap), some vs => putR d E (acall tb rc Y f (joined fi (joined vs cap)) S)
    | some (.y l), some vs => putR d E (ayield rc Y l vs S)
    | _, _ => none)
  (fun _ _ => plainF)
  (fun _ _ => plainF)
  (fun _ _ _ _ => plainF)
  (fun _ _ _ => plainF)
  (fun _ => plainF)
  (fun _ => plainF)
  (fun _ => plainF)
  (fun _ _ => plainF)
  (fun _ _ => plainF)
  (fun _ _ _ _ _ => plainF)
  (fun _ _ => plainF)
  (fun _ _ _ => plainF)
  (fun _ _ => plainF)
  (fun _ _ => plainF)
  (fun _ _ => plainF)
  (fun _ _ => plainF)
  (fun _ => plainF)
  (fun _ _ _ _ _ => plainF)
  (fun _ _ _ => plainF)
  (fun _ _ => plainF)
  (fun _ _ _ _ _ => plainF)
  (fun f xs _ _ tb _ _ E S _ _ d => match aevs S.H E xs with
    | some vs => match tb.find f with
      | some (.ext g) => match g vs S with
        | some (v, S') => putR d E (some (.ret v, S'))
        | none => none
      | _ => none
    | none => none)
  (fun _ _ _ _ => plainF)
  (fun _ _ _ _ => plainF)
  (fun _ _ _ _ _ => plainF)
  (fun _ _ _ _ => plainF)
  (fun _ _ _ _ => plainF)
  (fun _ _ _ => plainF)
  (fun x _ _ _ _ _ E S _ _ _ => match aev S.H E x with
    | some (.e t v) => some (.pan [(.e t v, false)] S)
    | _ => none)
  (fun _ => plainF)
  (fun _ _ => plainF)
  (fun _ _ => plainF)
  (fun _ _ _ => plainF)
  (fun _ => plainF)
  (fun _ => plainF)
  (fun _ => plainF)
  (fun _ => plainF)
  (fun _ _ _ _ => plainF)
  (fun _ => plainF)
  (fun _ _ => plainF)
  (fun _ => plainF)
  (fun _ _ _ => plainF)
  (fun _ => plainF)
  (fun _ _ _ => plainF)
  (fun _ => plainF)
  (fun _ => plainF)
  op
theorem plainF_eq (op : SOp) (P : Program) (tb : Tbl) (rc : Rec) (Y : AY) (E : AE) (S : AS) (id N' : Nat) (d : Option Nat) : plainF op P tb rc Y E S id N' d = (match aop P E S.H id op with
    | some (v, H') => match aupd E d v with
      | some E' => some (.ok E' ⟨H', N'⟩)
      | none => none
    | none => none) := by
  rw [← aopF_eq]; rfl
theorem arunF_eq (op : SOp) (P : Program) (tb : Tbl) (rc : Rec) (Y : AY) (E : AE) (S : AS) (id N' : Nat) (d : Option Nat) : arunF op op P tb rc Y E S id N' d = arun P tb rc Y E S id N' d op := by
  cases op <;> first
    | rfl
    | exact plainF_eq _ P tb rc Y E S id N' d

section
variable (P : Program) (tb : Tbl) (rc : Rec)
noncomputable def aoprF (Y : AY) (E : AE) (S : AS) (id N' : Nat) (o : SOper) : Option OR :=
  match o.guard with
  | none => arunF o.op o.op P tb rc Y E S id N' o.dst
  | some (g, want) => match E.get g with
    | some (.b t) => bif beqB t want then arunF o.op o.op P tb rc Y E S id N' o.dst else
      match aupd E o.dst (.t []) with
      | some E' => some (.ok E' S)
      | none => none
    | some (.t _) => match aupd E o.dst (.t []) with
      | some E' => some (.ok E' S)
      | none => none
    | _ => none

noncomputable def aopsF (Y : AY) : List SOper → AE → AS → Option OR
  | [], E, S => some (.ok E S)
  | o :: l, E, S => match aoprF P tb rc Y E S S.N (bif anew o.op then S.N + 1 else S.N) o with
    | some (.ok E' S') => aopsF Y l E' S'
    | r => r
noncomputable def achkF (E : AE) (H : AH) (o : SOper) : Bool :=
  match o.guard, o.dst with
  | none, some d => match aopF o.op P E H 0, E.get d with
    | some (v, _), some u => aeq v u
    | _, _ => false
  | some (g, want), some d => match E.get g with
    | some (.b t) => bif beqB t want then match aopF o.op P E H 0, E.get d with
        | some (v, _), some u => aeq v u
        | _, _ => false
      else match E.get d with
        | some u => aeq (.t []) u
        | none => false
    | some (.t _) => match E.get d with
      | some u => aeq (.t []) u
      | none => false
    | _ => false
  | _, none => false
noncomputable def achksF (E : AE) (H : AH) : List SOper → Bool
  | [] => true
  | o :: l => Nat.ble (cls o.op) 1 && achkF P E H o && achksF E H l
noncomputable def atreeF (Y : AY) (base : Nat) : OTree → AE → AS → Option OR
  | .done, E, S => some (.ok E S)
  | .one o t, E, S => match aoprF P tb rc Y E S (base + o.dst.getD 0) S.N o with
    | some (.ok E' S') => atreeF Y base t E' S'
    | r => r
  | .both a b, E, S => match atreeF Y base a E S, atreeF Y base b E S with
    | some (.ok E1 S1), some (.ok E2 S2) => bif beqT aeq E1 E2 && beqS S1 S2 then some (.ok E1 S1) else none
    | _, _ => none
  | .chk l t, E, S => bif achksF P E S.H l then atreeF Y base t E S else none
end
theorem aoprF_eq {P : Program} {tb : Tbl} {rc : Rec} (Y : AY) (E : AE) (S : AS) (id N' : Nat) (o : SOper) : aoprF P tb rc Y E S id N' o = aopr P tb rc Y E S id N' o := by
  unfold aoprF aopr
  simp only [arunF_eq]
  rfl
theorem aopsF_eq {P : Program} {tb : Tbl} {rc : Rec} (Y : AY) : ∀ (l : List SOper) (E : AE) (S : AS), aopsF P tb rc Y l E S = aops P tb rc Y l E S
  | [], _, _ => rfl
  | o :: l, E, S => by
    simp only [aopsF, aops, aoprF_eq, aopsF_eq Y l]
    rfl
theorem achkF_eq {P : Program} (E : AE) (H : AH) (o : SOper) : achkF P E H o = achk P E H o := by
  unfold achkF achk
  simp only [aopF_eq]
  rfl
theorem achksF_eq {P : Program} (E : AE) (H : AH) : ∀ l : List SOper, achksF P E H l = achks P E H l
  | [] => rfl
  | o :: l => by simp only [achksF, achks, achkF_eq, achksF_eq E H l]
theorem atreeF_eq {P : Program} {tb : Tbl} {rc : Rec} (Y : AY) (base : Nat) : ∀ (t : OTree) (E : AE) (S : AS), atreeF P tb rc Y base t E S = atree P tb rc Y base t E S
  | .done, _, _ => rfl
  | .one o t, E, S => by simp only [atreeF, atree, aoprF_eq, atreeF_eq Y base t]; rfl
  | .both a b, E, S => by simp only [atreeF, atree, atreeF_eq Y base a, atreeF_eq Y base b]; rfl
  | .chk l t, E, S => by simp only [atreeF, atree, achksF_eq, atreeF_eq Y base t]

noncomputable def astepF (c : SCode) : Program → Tbl → Rec → AY → AE → List AD → AS → Option AOut :=
  @SCode.rec (fun _ => Program → Tbl → Rec → AY → AE → List AD → AS → Option AOut)
  (fun _ _ _ _ E D S => some (.nrm, E, D, S))
  (fun l P tb rc Y E D S => match aopsF P tb rc Y l E S with
    | some (.ok E' S') => some (.nrm, E', D, S')
    | some (.pan ch S') => match delA E (dstsOf l) with
      | some E' => some (.pan ch, E', D, S')
      | none => none
    | none => none)
  (fun _ _ _ _ _ _ _ _ _ _ => none)
  (fun a b _ _ _ _ rc Y E D S => match rc Y a E D S with
    | some (.nrm, E', D', S') => rc Y b E' D' S'
    | r => r)
  (fun c a b _ _ _ _ rc Y E D S => match aev S.H E c with
    | some (.b t) => bif t then rc Y a E D S else rc Y b E D S
    | _ => none)
  (fun id c _ _ _ rc Y E D S => match rc Y c E D S with
    | some (.ex id', E', D', S') => bif Nat.beq id' id then some (.nrm, E', D', S') else some (.ex id', E', D', S')
    | r => r)
  (fun c _ _ _ rc Y E D S => match aloop rc Y c D 17 E S with
    | .out o => some o
    | _ => none)
  (fun c _ _ _ rc Y E D S => match rc Y c E D S with
    | some (.gt _, _, _, _) => none
    | r => r)
  (fun id _ _ _ _ E D S => some (.ex id, E, D, S))
  (fun _ _ _ _ E D S => some (.ret, E, D, S))
  (fun g ps a b _ _ _ tb rc Y E D S => match aev S.H E g with
    | some (.f f fi cap) => match grow S.H S.N (.dfd true) with
      | some H1 => match grow H1 (S.N + 1) (.loop .ready none) with
        | some H2 => match acall tb rc ((S.N + 1, E, ps, a, b) :: Y) f (joined fi (joined [.y (S.N + 1)] cap)) ⟨H2, S.N + 2⟩ with
          | some (.ret _, S3) => match S3.H.get (S.N + 1) with
            | some (.loop st p) => bif steq st .busy then none else
              match setL S3 (S.N + 1) .exhausted p with
              | some S4 => match p with
                | none => some (.nrm, E, .mk S.N :: D, S4)
                | some none => some (.ret, E, .mk S.N :: D, S4)
                | some (some id) => some (.ex id, E, .mk S.N :: D, S4)
              | none => none
            | _ => none
          | _ => none
        | none => none
      | none => none
    | _ => none)
  (fun l d x args P tb rc Y E D S => match aopsF P tb rc Y l E S with
    | some (.ok E' S') => match aev S'.H E' x, aevs S'.H E' args with
      | some (.f f fi cap), some vs => match aupd E' d (.t []) with
        | some E2 => some (.nrm, E2, .fn f cap (joined fi vs) :: D, S')
        | none => none
      | _, _ => none
    | some (.pan ch S') => match delA E (dstsOf l) with
      | some E' => some (.pan ch, E', D, S')
      | none => none
    | none => none)
  (fun _ _ _ _ _ _ _ _ => none)
  (fun l t P tb rc Y E D S => match atreeF P tb rc Y S.N t E ⟨S.H, S.N + maxL l + 1⟩ with
    | some (.ok E' S') => some (.nrm, E', D, S')
    | some (.pan ch S') => match delA E l with
      | some E' => some (.pan ch, E', D, S')
      | none => none
    | none => none)
  (fun _ _ _ _ _ E D S => some (.nrm, E, D, S))
  (fun l _ _ _ _ E D S => some (.gt l, E, D, S))
  (fun c l r _ _ _ _ rc Y E D S => match rc Y c E D S with
    | some (.gt l', E', D', S') => bif Nat.beq l' l then match rc Y r E' D' S' with
        | some (.gt _, _, _, _) => none
        | r => r
      else none
    | r => r)
  c
theorem astepF_eq {P : Program} {tb : Tbl} {rc : Rec} (Y : AY) (c : SCode) (E : AE) (D : List AD) (S : AS) : astepF c P tb rc Y E D S = astep P tb rc Y c E D S := by
  cases c with
  | ops l => rw [as_ops, ← aopsF_eq]; rfl
  | tree l t => rw [as_tree, ← atreeF_eq]; rfl
  | dfr l d x args => rw [as_dfr, ← aopsF_eq]; rfl
  | loop c => rw [as_loop]; rfl
  | _ => rfl

noncomputable def arecF (P : Program) (tb : Tbl) (n : Nat) : Rec := Nat.rec (fun _ _ _ _ _ => none) (fun _ ih => fun Y c E D S => astepF c P tb ih Y E D S) n
theorem arecF_eq {P : Program} {tb : Tbl} : ∀ n : Nat, arecF P tb n = arec P tb n
  | 0 => rfl
  | n + 1 => by
    show (fun Y c E D S => astepF c P tb (arecF P tb n) Y E D S) = (fun Y c E D S => astep P tb (arec P tb n) Y c E D S)
    rw [arecF_eq n]
    funext Y c E D S
    exact astepF_eq Y c E D S

end Go.Sx
