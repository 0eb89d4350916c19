/-
  The program's functions on typed values. Printed by program. No condition.
-/
import Derived.Test.YticlelmlnadclaaDoorKPoTypes
set_option linter.unusedVariables false
set_option linter.unusedSimpArgs false
set_option linter.unusedSectionVars false
set_option linter.unnecessarySimpa false
set_option linter.deprecated false
namespace Go.P
open Go Go.Abs

noncomputable def ref12_low_l1 (n_0 : GNode) : Int → Option (Int ⊕ (Unit ⊕ Unit))
  | v5 =>
    if (decide (v5 < (n_0.props.length : Int))) = true then
      (at? n_0.props v5).bind fun x7 =>
      if (decide ((x7.name.length : Int) > 100)) = true then
        some (.inr (.inr ()))
      else
        (at? n_0.props v5).bind fun x10 =>
        if (decide ((x10.value.length : Int) > 300)) = true then
          some (.inr (.inr ()))
        else
          some (.inl (IntKind.wrap .i64 (v5 + 1)))
    else
      some (.inr (.inl ()))

noncomputable def ref12_low_l2 (rec_ : GNode → Int → Option Bool) (n_0 : GNode) (levels_1 : Int) : Int → Option (Int ⊕ (Unit ⊕ Unit))
  | v16 =>
    if (decide (v16 < (n_0.kids.length : Int))) = true then
      (at? n_0.kids v16).bind fun x18 =>
      (rec_ x18 (IntKind.wrap .i64 (levels_1 - 1))).bind fun r20 =>
      if (!r20) = true then
        some (.inr (.inr ()))
      else
        some (.inl (IntKind.wrap .i64 (v16 + 1)))
    else
      some (.inr (.inl ()))

noncomputable def ref12_low_b (rec_ : GNode → Int → Option Bool) (n_0 : GNode) (levels_1 : Int) : Option Bool :=
  if (levels_1 == 0) = true then
    some false
  else
    if (decide ((n_0.name.length : Int) > 100)) = true then
      some false
    else
      if (decide ((n_0.props.length : Int) > 300)) = true then
        some false
      else
        if (decide ((n_0.kids.length : Int) > 80)) = true then
          some false
        else
          (loopN (ref12_low_l1 n_0) 0).bind fun r13 => match r13 with
          | (.inl r15) =>
            (loopN (ref12_low_l2 rec_ n_0 levels_1) 0).bind fun r23 => match r23 with
            | (.inl r25) =>
              some true
            | (.inr r26) =>
              some false
          | (.inr r27) =>
            some false

noncomputable def ref12_low_k : Nat → GNode → Int → Option Bool
  | 0, _, _ => none
  | k + 1, n_0, levels_1 => ref12_low_b (ref12_low_k k) n_0 levels_1

noncomputable def ref12_low (n_0 : GNode) (levels_1 : Int) : Option Bool := limF fun k => ref12_low_k k n_0 levels_1

noncomputable def ref12_size_l1 (rec_ : GNode → Int → Option Int) (n_0 : GNode) (levels_1 : Int) : (Int × Int) → Option ((Int × Int) ⊕ Int)
  | (v2, v3) =>
    if (decide (v3 < (n_0.kids.length : Int))) = true then
      if (decide (v2 < 1000)) = true then
        (at? n_0.kids v3).bind fun x6 =>
        (rec_ x6 (IntKind.wrap .i64 (levels_1 - 1))).bind fun r8 =>
        some (.inl ((IntKind.wrap .i64 (v2 + r8)), (IntKind.wrap .i64 (v3 + 1))))
      else
        some (.inr v2)
    else
      some (.inr v2)

noncomputable def ref12_size_b (rec_ : GNode → Int → Option Int) (n_0 : GNode) (levels_1 : Int) : Option Int :=
  if (levels_1 == 0) = true then
    some 0
  else
    (loopN (ref12_size_l1 rec_ n_0 levels_1) ((IntKind.wrap .i64 (1 + (n_0.props.length : Int))), 0)).bind fun r10 =>
    some r10

noncomputable def ref12_size_k : Nat → GNode → Int → Option Int
  | 0, _, _ => none
  | k + 1, n_0, levels_1 => ref12_size_b (ref12_size_k k) n_0 levels_1

noncomputable def ref12_size (n_0 : GNode) (levels_1 : Int) : Option Int := limF fun k => ref12_size_k k n_0 levels_1

noncomputable def ref12_Low (n_0 : GNode) : Option Bool :=
  (ref12_low n_0 12).bind fun r1 =>
  if r1 = true then
    (ref12_size n_0 12).bind fun r4 =>
    some (decide (r4 ≤ 400))
  else
    some false

noncomputable def law16_awake : Option Bool := some true

noncomputable def stringslite_HasPrefix (s_0 : Str) (prefix_1 : Str) : Option Bool :=
  if (decide ((s_0.length : Int) ≥ (prefix_1.length : Int))) = true then
    (sub? s_0 0 (prefix_1.length : Int)).bind fun s2 =>
    some (s2 == prefix_1)
  else
    some false

noncomputable def stringslite_CutPrefix (s_0 : Str) (prefix_1 : Str) : Option (Str × Bool) :=
  (stringslite_HasPrefix s_0 prefix_1).bind fun r1 =>
  if (!r1) = true then
    some (s_0, false)
  else
    (sub? s_0 (prefix_1.length : Int) (s_0.length : Int)).bind fun s4 =>
    some (s4, true)

noncomputable def strings_CutPrefix (s_0 : Str) (prefix_1 : Str) : Option (Str × Bool) :=
  (stringslite_CutPrefix s_0 prefix_1).bind fun r1 =>
  some (r1.1, r1.2)

noncomputable def slices_Index_string_l1 (s_0 : List Str) (v_1 : Str) : Int → Option (Int ⊕ (Unit ⊕ Int))
  | v1 =>
    if (decide (v1 < (s_0.length : Int))) = true then
      (at? s_0 v1).bind fun x3 =>
      if (v_1 == x3) = true then
        some (.inr (.inr v1))
      else
        some (.inl (IntKind.wrap .i64 (v1 + 1)))
    else
      some (.inr (.inl ()))

noncomputable def slices_Index_string (s_0 : List Str) (v_1 : Str) : Option Int :=
  (loopN (slices_Index_string_l1 s_0 v_1) 0).bind fun r6 => match r6 with
  | (.inl r8) =>
    some (-1)
  | (.inr r9) =>
    some r9

noncomputable def slices_Contains_string (s_0 : List Str) (v_1 : Str) : Option Bool :=
  (slices_Index_string s_0 v_1).bind fun r1 =>
  some (decide (r1 ≥ 0))

noncomputable def path_Parts (path_0 : Str) : Option ((List Str) × Bool) :=
  if (path_0 == ([47] : Str)) = true then
    some ([], true)
  else
    (strings_CutPrefix path_0 [47]).bind fun r2 =>
    (strings_Split r2.1 [47]).bind fun r4 =>
    if (!r2.2) = true then
      some ([], false)
    else
      if (decide ((r4.length : Int) ≥ 8)) = true then
        some ([], false)
      else
        (slices_Contains_string r4 []).bind fun r8 =>
        if r8 = true then
          some ([], false)
        else
          some (r4, true)

noncomputable def path_Join (names_0 : List Str) : Option Str :=
  (strings_Join names_0 [47]).bind fun r1 =>
  (cat? ([47] : Str) r1).bind fun s3 =>
  some s3

noncomputable def ref12_walk_l1 (rec_ : Str → GNode → Int → Option (List GSpot)) (path_0 : Str) (n_1 : GNode) (levels_2 : Int) : (Int × (List GSpot)) → Option ((Int × (List GSpot)) ⊕ (List GSpot))
  | (v4, v3) =>
    if (decide (v4 < (n_1.kids.length : Int))) = true then
      (cat? path_0 ([47] : Str)).bind fun s6 =>
      (at? path_0 (IntKind.wrap .i64 ((path_0.length : Int) - 1))).bind fun c8 =>
      if ((c8.toNat : Int) == 47) = true then
        (at? n_1.kids v4).bind fun x11 =>
        (cat? path_0 x11.name).bind fun s13 =>
        (at? n_1.kids v4).bind fun x15 =>
        (rec_ s13 x15 (IntKind.wrap .i64 (levels_2 - 1))).bind fun r17 =>
        (app? 80 v3 r17).bind fun l19 =>
        some (.inl ((IntKind.wrap .i64 (v4 + 1)), l19))
      else
        (at? n_1.kids v4).bind fun x21 =>
        (cat? s6 x21.name).bind fun s23 =>
        (at? n_1.kids v4).bind fun x25 =>
        (rec_ s23 x25 (IntKind.wrap .i64 (levels_2 - 1))).bind fun r27 =>
        (app? 80 v3 r27).bind fun l29 =>
        some (.inl ((IntKind.wrap .i64 (v4 + 1)), l29))
    else
      some (.inr v3)

noncomputable def ref12_walk_b (rec_ : Str → GNode → Int → Option (List GSpot)) (path_0 : Str) (n_1 : GNode) (levels_2 : Int) : Option (List GSpot) :=
  if (levels_2 == 0) = true then
    some []
  else
    (loopN (ref12_walk_l1 rec_ path_0 n_1 levels_2) (0, [(GSpot.mk path_0 n_1)])).bind fun r31 =>
    some r31

noncomputable def ref12_walk_k : Nat → Str → GNode → Int → Option (List GSpot)
  | 0, _, _, _ => none
  | k + 1, path_0, n_1, levels_2 => ref12_walk_b (ref12_walk_k k) path_0 n_1 levels_2

noncomputable def ref12_walk (path_0 : Str) (n_1 : GNode) (levels_2 : Int) : Option (List GSpot) := limF fun k => ref12_walk_k k path_0 n_1 levels_2

noncomputable def ref12_Walk (n_0 : GNode) : Option (List GSpot) :=
  (ref12_walk [47] n_0 8).bind fun r1 =>
  some r1

noncomputable def path_Kid_l1 (n_0 : GNode) (name_1 : Str) : Int → Option (Int ⊕ (Unit ⊕ Int))
  | v1 =>
    if (decide (v1 < (n_0.kids.length : Int))) = true then
      (at? n_0.kids v1).bind fun x3 =>
      if (x3.name == name_1) = true then
        some (.inr (.inr v1))
      else
        some (.inl (IntKind.wrap .i64 (v1 + 1)))
    else
      some (.inr (.inl ()))

noncomputable def path_Kid (n_0 : GNode) (name_1 : Str) : Option (GNode × Bool) :=
  (loopN (path_Kid_l1 n_0 name_1) 0).bind fun r6 => match r6 with
  | (.inl r8) =>
    some ((GNode.mk [] [] []), false)
  | (.inr r9) =>
    if (decide (r9 < 0)) = true then
      some ((GNode.mk [] [] []), false)
    else
      (at? n_0.kids r9).bind fun x11 =>
      some (x11, true)

noncomputable def path_Find_l1 (r1 : (List Str) × Bool) : (Bool × Int × Str × (List GProp) × (List GNode)) → Option ((Bool × Int × Str × (List GProp) × (List GNode)) ⊕ (Bool × Str × (List GProp) × (List GNode)))
  | (v3, v4, v5, v6, v7) =>
    if (decide (v4 < (r1.1.length : Int))) = true then
      (at? r1.1 v4).bind fun x9 =>
      if v3 = true then
        (path_Kid (GNode.mk v5 v6 v7) x9).bind fun r12 =>
        some (.inl (r12.2, (IntKind.wrap .i64 (v4 + 1)), r12.1.name, r12.1.props, r12.1.kids))
      else
        some (.inl (v3, (IntKind.wrap .i64 (v4 + 1)), v5, v6, v7))
    else
      some (.inr (v3, v5, v6, v7))

noncomputable def path_Find (n_0 : GNode) (path_1 : Str) : Option (GNode × Bool) :=
  (path_Parts path_1).bind fun r1 =>
  (loopN (path_Find_l1 r1) (r1.2, 0, n_0.name, n_0.props, n_0.kids)).bind fun r14 =>
  if (!r14.1) = true then
    some ((GNode.mk [] [] []), false)
  else
    some ((GNode.mk r14.2.1 r14.2.2.1 r14.2.2.2), true)

noncomputable def ref12_SameProps_l1 (a_0 : List GProp) (b_1 : List GProp) : Int → Option (Int ⊕ (Unit ⊕ Unit))
  | v2 =>
    if (decide (v2 < (a_0.length : Int))) = true then
      if (decide (v2 < (b_1.length : Int))) = true then
        (at? a_0 v2).bind fun x5 =>
        (at? b_1 v2).bind fun x7 =>
        if (!(x5 == x7)) = true then
          some (.inr (.inr ()))
        else
          some (.inl (IntKind.wrap .i64 (v2 + 1)))
      else
        some (.inr (.inl ()))
    else
      some (.inr (.inl ()))

noncomputable def ref12_SameProps (a_0 : List GProp) (b_1 : List GProp) : Option Bool :=
  if ((a_0.length : Int) != (b_1.length : Int)) = true then
    some false
  else
    (loopN (ref12_SameProps_l1 a_0 b_1) 0).bind fun r10 => match r10 with
    | (.inl r12) =>
      some true
    | (.inr r13) =>
      some false

noncomputable def ref12_same_l1 (rec_ : GNode → GNode → Int → Option Bool) (a_0 : GNode) (b_1 : GNode) (levels_2 : Int) : Int → Option (Int ⊕ (Unit ⊕ Unit))
  | v7 =>
    if (decide (v7 < (a_0.kids.length : Int))) = true then
      if (decide (v7 < (b_1.kids.length : Int))) = true then
        (at? a_0.kids v7).bind fun x10 =>
        (at? b_1.kids v7).bind fun x12 =>
        (rec_ x10 x12 (IntKind.wrap .i64 (levels_2 - 1))).bind fun r14 =>
        if (!r14) = true then
          some (.inr (.inr ()))
        else
          some (.inl (IntKind.wrap .i64 (v7 + 1)))
      else
        some (.inr (.inl ()))
    else
      some (.inr (.inl ()))

noncomputable def ref12_same_b (rec_ : GNode → GNode → Int → Option Bool) (a_0 : GNode) (b_1 : GNode) (levels_2 : Int) : Option Bool :=
  if (levels_2 == 0) = true then
    some (levels_2 == 0)
  else
    if (!(a_0.name == b_1.name)) = true then
      some (levels_2 == 0)
    else
      (ref12_SameProps a_0.props b_1.props).bind fun r3 =>
      if (!r3) = true then
        some (levels_2 == 0)
      else
        if ((a_0.kids.length : Int) != (b_1.kids.length : Int)) = true then
          some (levels_2 == 0)
        else
          (loopN (ref12_same_l1 rec_ a_0 b_1 levels_2) 0).bind fun r17 => match r17 with
          | (.inl r19) =>
            some true
          | (.inr r20) =>
            some false

noncomputable def ref12_same_k : Nat → GNode → GNode → Int → Option Bool
  | 0, _, _, _ => none
  | k + 1, a_0, b_1, levels_2 => ref12_same_b (ref12_same_k k) a_0 b_1 levels_2

noncomputable def ref12_same (a_0 : GNode) (b_1 : GNode) (levels_2 : Int) : Option Bool := limF fun k => ref12_same_k k a_0 b_1 levels_2

noncomputable def ref12_Same (a_0 : GNode) (b_1 : GNode) : Option Bool :=
  (ref12_same a_0 b_1 20).bind fun r1 =>
  some r1

noncomputable def law16_PathWalk_l3 (x19 : GSpot) (v21 : Int) : Int → Option (Int ⊕ (Unit ⊕ Bool))
  | v35 =>
    if (decide (v35 < v21)) = true then
      (at? x19.node.kids v21).bind fun x37 =>
      (at? x19.node.kids v35).bind fun x39 =>
      if (x37.name == x39.name) = true then
        (law16_awake).bind fun r42 =>
        some (.inr (.inr r42))
      else
        some (.inl (IntKind.wrap .i64 (v35 + 1)))
    else
      some (.inr (.inl ()))

noncomputable def law16_PathWalk_l2 (x19 : GSpot) : Int → Option (Int ⊕ (Unit ⊕ Bool))
  | v21 =>
    if (decide (v21 < (x19.node.kids.length : Int))) = true then
      (at? x19.node.kids v21).bind fun x23 =>
      (cat? ([47] : Str) x23.name).bind fun s25 =>
      (path_Parts s25).bind fun r27 =>
      if (!r27.2) = true then
        (law16_awake).bind fun r30 =>
        some (.inr (.inr r30))
      else
        if ((r27.1.length : Int) != 1) = true then
          (law16_awake).bind fun r33 =>
          some (.inr (.inr r33))
        else
          (loopN (law16_PathWalk_l3 x19 v21) 0).bind fun r44 => match r44 with
          | (.inl r46) =>
            some (.inl (IntKind.wrap .i64 (v21 + 1)))
          | (.inr r47) =>
            some (.inr (.inr r47))
    else
      some (.inr (.inl ()))

noncomputable def law16_PathWalk_l1 (r15 : List GSpot) : Int → Option (Int ⊕ (Unit ⊕ Bool))
  | v17 =>
    if (decide (v17 < (r15.length : Int))) = true then
      (at? r15 v17).bind fun x19 =>
      (loopN (law16_PathWalk_l2 x19) 0).bind fun r48 => match r48 with
      | (.inl r50) =>
        some (.inl (IntKind.wrap .i64 (v17 + 1)))
      | (.inr r51) =>
        some (.inr (.inr r51))
    else
      some (.inr (.inl ()))

noncomputable def law16_PathWalk_l4 (n_0 : GNode) (r15 : List GSpot) : Int → Option (Int ⊕ (Unit ⊕ Unit))
  | v55 =>
    if (decide (v55 < (r15.length : Int))) = true then
      (at? r15 v55).bind fun x57 =>
      (path_Find n_0 x57.path).bind fun r59 =>
      if (!r59.2) = true then
        some (.inr (.inr ()))
      else
        (at? r15 v55).bind fun x62 =>
        (ref12_Same r59.1 x62.node).bind fun r64 =>
        if (!r64) = true then
          some (.inr (.inr ()))
        else
          some (.inl (IntKind.wrap .i64 (v55 + 1)))
    else
      some (.inr (.inl ()))

noncomputable def law16_PathWalk_l7 (x78 : GSpot) (v80 : Int) : Int → Option (Int ⊕ (Unit ⊕ Bool))
  | v94 =>
    if (decide (v94 < v80)) = true then
      (at? x78.node.kids v80).bind fun x96 =>
      (at? x78.node.kids v94).bind fun x98 =>
      if (x96.name == x98.name) = true then
        (law16_awake).bind fun r101 =>
        some (.inr (.inr r101))
      else
        some (.inl (IntKind.wrap .i64 (v94 + 1)))
    else
      some (.inr (.inl ()))

noncomputable def law16_PathWalk_l6 (x78 : GSpot) : Int → Option (Int ⊕ (Unit ⊕ Bool))
  | v80 =>
    if (decide (v80 < (x78.node.kids.length : Int))) = true then
      (at? x78.node.kids v80).bind fun x82 =>
      (cat? ([47] : Str) x82.name).bind fun s84 =>
      (path_Parts s84).bind fun r86 =>
      if (!r86.2) = true then
        (law16_awake).bind fun r89 =>
        some (.inr (.inr r89))
      else
        if ((r86.1.length : Int) != 1) = true then
          (law16_awake).bind fun r92 =>
          some (.inr (.inr r92))
        else
          (loopN (law16_PathWalk_l7 x78 v80) 0).bind fun r103 => match r103 with
          | (.inl r105) =>
            some (.inl (IntKind.wrap .i64 (v80 + 1)))
          | (.inr r106) =>
            some (.inr (.inr r106))
    else
      some (.inr (.inl ()))

noncomputable def law16_PathWalk_l5 (r74 : List GSpot) : Int → Option (Int ⊕ (Unit ⊕ Bool))
  | v76 =>
    if (decide (v76 < (r74.length : Int))) = true then
      (at? r74 v76).bind fun x78 =>
      (loopN (law16_PathWalk_l6 x78) 0).bind fun r107 => match r107 with
      | (.inl r109) =>
        some (.inl (IntKind.wrap .i64 (v76 + 1)))
      | (.inr r110) =>
        some (.inr (.inr r110))
    else
      some (.inr (.inl ()))

noncomputable def law16_PathWalk_l8 (n_0 : GNode) (r74 : List GSpot) : Int → Option (Int ⊕ (Unit ⊕ Unit))
  | v114 =>
    if (decide (v114 < (r74.length : Int))) = true then
      (at? r74 v114).bind fun x116 =>
      (path_Find n_0 x116.path).bind fun r118 =>
      if (!r118.2) = true then
        some (.inr (.inr ()))
      else
        (at? r74 v114).bind fun x121 =>
        (ref12_Same r118.1 x121.node).bind fun r123 =>
        if (!r123) = true then
          some (.inr (.inr ()))
        else
          some (.inl (IntKind.wrap .i64 (v114 + 1)))
    else
      some (.inr (.inl ()))

noncomputable def law16_PathWalk (n_0 : GNode) (p_1 : Str) : Option Bool :=
  (ref12_Low n_0).bind fun r1 =>
  if (!r1) = true then
    (law16_awake).bind fun r4 =>
    some r4
  else
    if (decide ((p_1.length : Int) > 200)) = true then
      (law16_awake).bind fun r7 =>
      some r7
    else
      (path_Parts p_1).bind fun r9 =>
      if r9.2 = true then
        (path_Join r9.1).bind fun r12 =>
        if (!(r12 == p_1)) = true then
          some false
        else
          (ref12_Walk n_0).bind fun r15 =>
          (loopN (law16_PathWalk_l1 r15) 0).bind fun r52 => match r52 with
          | (.inl r54) =>
            (loopN (law16_PathWalk_l4 n_0 r15) 0).bind fun r67 => match r67 with
            | (.inl r69) =>
              (law16_awake).bind fun r70 =>
              some r70
            | (.inr r72) =>
              some false
          | (.inr r73) =>
            some r73
      else
        (ref12_Walk n_0).bind fun r74 =>
        (loopN (law16_PathWalk_l5 r74) 0).bind fun r111 => match r111 with
        | (.inl r113) =>
          (loopN (law16_PathWalk_l8 n_0 r74) 0).bind fun r126 => match r126 with
          | (.inl r128) =>
            (law16_awake).bind fun r129 =>
            some r129
          | (.inr r131) =>
            some false
        | (.inr r132) =>
          some r132

noncomputable def ref16_Parts_l1 (path_0 : Str) : (Int × Int × (List Str)) → Option ((Int × Int × (List Str)) ⊕ ((List Str) ⊕ (List Str)))
  | (v8, v9, v7) =>
    if (decide (v9 ≤ (path_0.length : Int))) = true then
      if (decide (v9 < (path_0.length : Int))) = true then
        (at? path_0 v9).bind fun c12 =>
        if ((c12.toNat : Int) != 47) = true then
          some (.inl (v8, (IntKind.wrap .i64 (v9 + 1)), v7))
        else
          if (v9 == v8) = true then
            some (.inr (.inr v7))
          else
            if ((v7.length : Int) == 7) = true then
              some (.inr (.inr v7))
            else
              (sub? path_0 v8 v9).bind fun s17 =>
              (app? 16 v7 [s17]).bind fun l19 =>
              some (.inl ((IntKind.wrap .i64 (v9 + 1)), (IntKind.wrap .i64 (v9 + 1)), l19))
      else
        if (v9 == v8) = true then
          some (.inr (.inr v7))
        else
          if ((v7.length : Int) == 7) = true then
            some (.inr (.inr v7))
          else
            (sub? path_0 v8 v9).bind fun s23 =>
            (app? 16 v7 [s23]).bind fun l25 =>
            some (.inl ((IntKind.wrap .i64 (v9 + 1)), (IntKind.wrap .i64 (v9 + 1)), l25))
    else
      some (.inr (.inl v7))

noncomputable def ref16_Parts (path_0 : Str) : Option ((List Str) × Bool) :=
  if (path_0 == ([47] : Str)) = true then
    some ([], true)
  else
    if (path_0 == ([] : Str)) = true then
      some ([], false)
    else
      (at? path_0 0).bind fun c3 =>
      if ((c3.toNat : Int) != 47) = true then
        some ([], false)
      else
        (loopN (ref16_Parts_l1 path_0) (1, 1, [])).bind fun r27 => match r27 with
        | (.inl r30) =>
          some (r30, true)
        | (.inr r31) =>
          some ([], false)

noncomputable def ref16_Kid_l1 (n_0 : GNode) (name_1 : Str) : Int → Option (Int ⊕ (Unit ⊕ (Str × (List GProp) × (List GNode))))
  | v1 =>
    if (decide (v1 < (n_0.kids.length : Int))) = true then
      (at? n_0.kids v1).bind fun x3 =>
      if (x3.name == name_1) = true then
        (at? n_0.kids v1).bind fun x6 =>
        some (.inr (.inr (x6.name, x6.props, x6.kids)))
      else
        some (.inl (IntKind.wrap .i64 (v1 + 1)))
    else
      some (.inr (.inl ()))

noncomputable def ref16_Kid (n_0 : GNode) (name_1 : Str) : Option (GNode × Bool) :=
  (loopN (ref16_Kid_l1 n_0 name_1) 0).bind fun r8 => match r8 with
  | (.inl r10) =>
    some ((GNode.mk [] [] []), false)
  | (.inr r11) =>
    some ((GNode.mk r11.1 r11.2.1 r11.2.2), true)

noncomputable def ref16_Find_l1 (r1 : (List Str) × Bool) : (Int × Str × (List GProp) × (List GNode)) → Option ((Int × Str × (List GProp) × (List GNode)) ⊕ ((Str × (List GProp) × (List GNode)) ⊕ (Str × (List GProp) × (List GNode))))
  | (v4, v5, v6, v7) =>
    if (decide (v4 < (r1.1.length : Int))) = true then
      (at? r1.1 v4).bind fun x9 =>
      (ref16_Kid (GNode.mk v5 v6 v7) x9).bind fun r11 =>
      if (!r11.2) = true then
        some (.inr (.inr (v5, v6, v7)))
      else
        some (.inl ((IntKind.wrap .i64 (v4 + 1)), r11.1.name, r11.1.props, r11.1.kids))
    else
      some (.inr (.inl (v5, v6, v7)))

noncomputable def ref16_Find (n_0 : GNode) (path_1 : Str) : Option (GNode × Bool) :=
  (ref16_Parts path_1).bind fun r1 =>
  if (!r1.2) = true then
    some ((GNode.mk [] [] []), false)
  else
    (loopN (ref16_Find_l1 r1) (0, n_0.name, n_0.props, n_0.kids)).bind fun r14 => match r14 with
    | (.inl r16) =>
      some ((GNode.mk r16.1 r16.2.1 r16.2.2), true)
    | (.inr r17) =>
      some ((GNode.mk [] [] []), false)

noncomputable def path_Value_l1 (n_0 : GNode) (name_1 : Str) : Int → Option (Int ⊕ (Unit ⊕ Int))
  | v1 =>
    if (decide (v1 < (n_0.props.length : Int))) = true then
      (at? n_0.props v1).bind fun x3 =>
      if (x3.name == name_1) = true then
        some (.inr (.inr v1))
      else
        some (.inl (IntKind.wrap .i64 (v1 + 1)))
    else
      some (.inr (.inl ()))

noncomputable def path_Value (n_0 : GNode) (name_1 : Str) : Option (Str × Bool) :=
  (loopN (path_Value_l1 n_0 name_1) 0).bind fun r6 => match r6 with
  | (.inl r8) =>
    some ([], false)
  | (.inr r9) =>
    if (decide (r9 < 0)) = true then
      some ([], false)
    else
      (at? n_0.props r9).bind fun x11 =>
      some (x11.value, true)

noncomputable def ref16_Value_l1 (n_0 : GNode) (name_1 : Str) : Int → Option (Int ⊕ (Unit ⊕ Str))
  | v1 =>
    if (decide (v1 < (n_0.props.length : Int))) = true then
      (at? n_0.props v1).bind fun x3 =>
      if (x3.name == name_1) = true then
        (at? n_0.props v1).bind fun x6 =>
        some (.inr (.inr x6.value))
      else
        some (.inl (IntKind.wrap .i64 (v1 + 1)))
    else
      some (.inr (.inl ()))

noncomputable def ref16_Value (n_0 : GNode) (name_1 : Str) : Option (Str × Bool) :=
  (loopN (ref16_Value_l1 n_0 name_1) 0).bind fun r8 => match r8 with
  | (.inl r10) =>
    some ([], false)
  | (.inr r11) =>
    some (r11, true)

noncomputable def stringslite_HasSuffix (s_0 : Str) (suffix_1 : Str) : Option Bool :=
  if (decide ((s_0.length : Int) ≥ (suffix_1.length : Int))) = true then
    (sub? s_0 (IntKind.wrap .i64 ((s_0.length : Int) - (suffix_1.length : Int))) (s_0.length : Int)).bind fun s2 =>
    some (s2 == suffix_1)
  else
    some false

noncomputable def stringslite_CutSuffix (s_0 : Str) (suffix_1 : Str) : Option (Str × Bool) :=
  (stringslite_HasSuffix s_0 suffix_1).bind fun r1 =>
  if (!r1) = true then
    some (s_0, false)
  else
    (sub? s_0 0 (IntKind.wrap .i64 ((s_0.length : Int) - (suffix_1.length : Int)))).bind fun s4 =>
    some (s4, true)

noncomputable def strings_CutSuffix (s_0 : Str) (suffix_1 : Str) : Option (Str × Bool) :=
  (stringslite_CutSuffix s_0 suffix_1).bind fun r1 =>
  some (r1.1, r1.2)

noncomputable def value_AsTexts (v_0 : Str) : Option ((List Str) × Bool) :=
  (strings_CutSuffix v_0 [0]).bind fun r1 =>
  if (!r1.2) = true then
    some ([], false)
  else
    (strings_Split r1.1 [0]).bind fun r4 =>
    some (r4, true)

noncomputable def value_AsText (v_0 : Str) : Option (Str × Bool) :=
  (value_AsTexts v_0).bind fun r1 =>
  if (!r1.2) = true then
    some ([], false)
  else
    if ((r1.1.length : Int) != 1) = true then
      some ([], false)
    else
      (at? r1.1 0).bind fun x5 =>
      some (x5, true)

noncomputable def path_Text (n_0 : GNode) (path_1 : Str) (name_2 : Str) : Option (Str × Bool) :=
  (path_Find n_0 path_1).bind fun r1 =>
  (path_Value r1.1 name_2).bind fun r3 =>
  (value_AsText r3.1).bind fun r5 =>
  some (r5.1, r5.2)

noncomputable def ref16_at (n_0 : GNode) (path_1 : Str) (name_2 : Str) : Option (Str × Bool) :=
  (ref16_Find n_0 path_1).bind fun r1 =>
  if (!r1.2) = true then
    some ([], false)
  else
    (ref16_Value r1.1 name_2).bind fun r4 =>
    some (r4.1, r4.2)

noncomputable def ref13_cut_l1 (s_0 : Str) : Int → Option (Int ⊕ (Unit ⊕ Str))
  | v1 =>
    if (decide (v1 < (s_0.length : Int))) = true then
      (at? s_0 v1).bind fun c3 =>
      if ((c3.toNat : Int) == 0) = true then
        (sub? s_0 0 v1).bind fun s6 =>
        some (.inr (.inr s6))
      else
        some (.inl (IntKind.wrap .i64 (v1 + 1)))
    else
      some (.inr (.inl ()))

noncomputable def ref13_cut (s_0 : Str) : Option Str :=
  (loopN (ref13_cut_l1 s_0) 0).bind fun r8 => match r8 with
  | (.inl r10) =>
    some s_0
  | (.inr r11) =>
    some r11

noncomputable def ref13_AsTexts_l1 : (Str × (List Str)) → Option ((Str × (List Str)) ⊕ (List Str))
  | (v7, v6) =>
    if (!(v7 == ([] : Str))) = true then
      (ref13_cut v7).bind fun r9 =>
      (app? 16 v6 [r9]).bind fun l11 =>
      (sub? v7 (IntKind.wrap .i64 ((r9.length : Int) + 1)) (v7.length : Int)).bind fun s13 =>
      some (.inl (s13, l11))
    else
      some (.inr v6)

noncomputable def ref13_AsTexts (v_0 : Str) : Option ((List Str) × Bool) :=
  if (v_0 == ([] : Str)) = true then
    some ([], false)
  else
    (at? v_0 (IntKind.wrap .i64 ((v_0.length : Int) - 1))).bind fun c2 =>
    if ((c2.toNat : Int) != 0) = true then
      some ([], false)
    else
      (loopN (ref13_AsTexts_l1) (v_0, [])).bind fun r15 =>
      some (r15, true)

noncomputable def ref13_AsText (v_0 : Str) : Option (Str × Bool) :=
  (ref13_AsTexts v_0).bind fun r1 =>
  if (!r1.2) = true then
    some ([], false)
  else
    if ((r1.1.length : Int) != 1) = true then
      some ([], false)
    else
      (at? r1.1 0).bind fun x5 =>
      some (x5, true)

noncomputable def ref16_Text (n_0 : GNode) (path_1 : Str) (name_2 : Str) : Option (Str × Bool) :=
  (ref16_at n_0 path_1 name_2).bind fun r1 =>
  if (!r1.2) = true then
    some ([], false)
  else
    (ref13_AsText r1.1).bind fun r4 =>
    some (r4.1, r4.2)

noncomputable def num_FromBig_l1 (l4 : List Int) : (Int × Int) → Option ((Int × Int) ⊕ Int)
  | (v6, v7) =>
    if (decide (v7 < (l4.length : Int))) = true then
      (at? l4 v7).bind fun x9 =>
      some (.inl ((IntKind.wrap .i64 (BitVec.ofInt 64 (IntKind.wrap .i64 (v6 * 2 ^ 8)) ||| BitVec.ofInt 64 (IntKind.wrap .i64 x9)).toNat), (IntKind.wrap .i64 (v7 + 1))))
    else
      some (.inr v6)

noncomputable def num_FromBig (s_0 : Str) : Option (Int × Bool) :=
  if (decide ((s_0.length : Int) < 4)) = true then
    some (0, false)
  else
    (sub? s_0 0 4).bind fun s2 =>
    (bytes? s2).bind fun l4 =>
    (loopN (num_FromBig_l1 l4) (0, 0)).bind fun r11 =>
    some (r11, true)

noncomputable def value_AsNumber (v_0 : Str) : Option (Int × Bool) :=
  if ((v_0.length : Int) != 4) = true then
    some (0, false)
  else
    (num_FromBig v_0).bind fun r2 =>
    some (r2.1, r2.2)

noncomputable def path_Number (n_0 : GNode) (path_1 : Str) (name_2 : Str) : Option (Int × Bool) :=
  (path_Find n_0 path_1).bind fun r1 =>
  (path_Value r1.1 name_2).bind fun r3 =>
  (value_AsNumber r3.1).bind fun r5 =>
  some (r5.1, r5.2)

noncomputable def ref01_FromBig (s_0 : Str) : Option (Int × Bool) :=
  if (decide ((s_0.length : Int) < 4)) = true then
    some (0, false)
  else
    (at? s_0 0).bind fun c2 =>
    (at? s_0 1).bind fun c4 =>
    (at? s_0 2).bind fun c6 =>
    (at? s_0 3).bind fun c8 =>
    some ((IntKind.wrap .i64 ((IntKind.wrap .i64 ((IntKind.wrap .i64 ((IntKind.wrap .i64 ((IntKind.wrap .i64 (c2.toNat : Int)) * 16777216)) + (IntKind.wrap .i64 ((IntKind.wrap .i64 (c4.toNat : Int)) * 65536)))) + (IntKind.wrap .i64 ((IntKind.wrap .i64 (c6.toNat : Int)) * 256)))) + (IntKind.wrap .i64 (c8.toNat : Int)))), true)

noncomputable def ref13_AsNumber (v_0 : Str) : Option (Int × Bool) :=
  if ((v_0.length : Int) != 4) = true then
    some (0, false)
  else
    (ref01_FromBig v_0).bind fun r2 =>
    some (r2.1, r2.2)

noncomputable def ref16_Number (n_0 : GNode) (path_1 : Str) (name_2 : Str) : Option (Int × Bool) :=
  (ref16_at n_0 path_1 name_2).bind fun r1 =>
  if (!r1.2) = true then
    some (0, false)
  else
    (ref13_AsNumber r1.1).bind fun r4 =>
    some (r4.1, r4.2)

noncomputable def law16_PathFind (n_0 : GNode) (p_1 : Str) (name_2 : Str) : Option Bool :=
  (ref12_Low n_0).bind fun r1 =>
  if (!r1) = true then
    (law16_awake).bind fun r4 =>
    some r4
  else
    if (decide ((p_1.length : Int) > 200)) = true then
      (law16_awake).bind fun r7 =>
      some r7
    else
      if (decide ((name_2.length : Int) > 200)) = true then
        (law16_awake).bind fun r10 =>
        some r10
      else
        (path_Find n_0 p_1).bind fun r12 =>
        (ref16_Find n_0 p_1).bind fun r14 =>
        (path_Kid n_0 name_2).bind fun r16 =>
        (ref16_Kid n_0 name_2).bind fun r18 =>
        (ref12_Same r12.1 r14.1).bind fun r20 =>
        if (!r20) = true then
          some false
        else
          if (!(r12.2 == r14.2)) = true then
            some false
          else
            (ref12_Same r16.1 r18.1).bind fun r24 =>
            if (!r24) = true then
              some false
            else
              if (!(r16.2 == r18.2)) = true then
                some false
              else
                (path_Value r12.1 name_2).bind fun r28 =>
                (ref16_Value r14.1 name_2).bind fun r30 =>
                (path_Text n_0 p_1 name_2).bind fun r32 =>
                (ref16_Text n_0 p_1 name_2).bind fun r34 =>
                (path_Number n_0 p_1 name_2).bind fun r36 =>
                (ref16_Number n_0 p_1 name_2).bind fun r38 =>
                if (r28.1 == r30.1) = true then
                  if (r28.2 == r30.2) = true then
                    if (r32.1 == r34.1) = true then
                      if (r32.2 == r34.2) = true then
                        if (r36.1 == r38.1) = true then
                          if (r36.2 == r38.2) = true then
                            (law16_awake).bind fun r46 =>
                            some r46
                          else
                            some false
                        else
                          some false
                      else
                        some false
                    else
                      some false
                  else
                    some false
                else
                  some false

end Go.P
