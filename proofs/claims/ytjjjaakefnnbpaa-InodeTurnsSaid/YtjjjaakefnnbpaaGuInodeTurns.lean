/- What the functions compute (part 2): written by gen.py. -/
import Derived.Test.YtjjjaakefnnbpaaGuInodeTurnsP1
set_option maxRecDepth 100000
set_option linter.all false
namespace Go.Proofs.Ytjjjaakefnnbpaa.pv
open Go.RowKit
theorem G_ringlaw3_InodeTurns_L3_ok {Fi : Ex → PS → Prop} (hF : KC 136 Fi) (ks : List Fr) (n : Nat) (v_r213 : ((List Int) × Int)) (v_n1 : S_inode_Node)  : ∀ (k : Nat) (v_used491 : Int) (v_x492 : Int) (o : G_ringlaw3_InodeTurns_L3_R), G_ringlaw3_InodeTurns_L3 n v_r213 v_n1 k v_used491 v_x492 = some o → RunE Try.prog 136 Fi ks (G_ringlaw3_InodeTurns_L3_ex o) (G_ringlaw3_InodeTurns_L3_st v_r213 v_n1 o) → RunE Try.prog 136 Fi (.l k (cP (cB (cR (cL (cR (cR (cR (cR (cR (cR (cR (cR (cR (cR (bodyOf Try.f9))))))))))))))) :: ks) .normal (G_ringlaw3_InodeTurns_L3_hd v_r213 v_n1 v_used491 v_x492)
  | 0, v_used491, v_x492, o, h, q => by rw [G_ringlaw3_InodeTurns_L3] at h; cases h
  | k + 1, v_used491, v_x492, o, h, q => by
    rw [G_ringlaw3_InodeTurns_L3] at h
    by_cases h568 : v_x492 < (v_n1.fPoints.length : Int)
    · rw [if_pos h568] at h
      obtain ⟨v_y494, h572, h⟩ := bind_some h
      by_cases h574 : v_y494 > 0
      · rw [if_pos h574] at h
        exact pkk_sound TTok mix hF 16 (hs := [.t true, .y ((eI .i64) v_y494), .c, .t true]) (ts := []) (s := [0]) (l := [3, 8, 14, 81, 82, 83]) (by kernel_rfl) (by kernel_rfl) (.cons (dt h568) (.cons (getI_ob (f := (eI .i64)) h572) (.cons (dt h574) .nil))) (G_ringlaw3_InodeTurns_L3_ok hF ks n v_r213 v_n1 k (wi .i64 (v_used491 + 1)) (wi .i64 (v_x492 + 1)) _ h q)
      · rw [if_neg h574] at h
        exact pkk_sound TTok mix hF 16 (hs := [.t true, .y ((eI .i64) v_y494), .c, .t false]) (ts := []) (s := [0]) (l := [3, 8, 14, 81, 82, 83]) (by kernel_rfl) (by kernel_rfl) (.cons (dt h568) (.cons (getI_ob (f := (eI .i64)) h572) (.cons (df h574) .nil))) (G_ringlaw3_InodeTurns_L3_ok hF ks n v_r213 v_n1 k v_used491 (wi .i64 (v_x492 + 1)) _ h q)
    · rw [if_neg h568] at h
      cases h
      exact pkk_sound TTok mix hF 8 (hs := [.t false]) (ts := []) (s := [0]) (l := [3, 8, 14]) (by kernel_rfl) (by kernel_rfl) (.cons (df h568) .nil) q
inductive G_ringlaw3_InodeTurns_C4_R where
  | x0 (v_x518 : Bool)
def G_ringlaw3_InodeTurns_C4_ex : G_ringlaw3_InodeTurns_C4_R → Ex
  | .x0 _ => .normal
def G_ringlaw3_InodeTurns_C4_st (v_r213 : ((List Int) × Int)) (v_z497 : Int) (v_n1 : S_inode_Node) (v_r499 : (S_api_Stat)) : G_ringlaw3_InodeTurns_C4_R → PS
  | .x0 v_x518 => ⟨[dd, dd, dd, dd, dd, dd, .d (.v (.bool v_x518)), dd, dd, dd, dd, dd, dd, dd, dd, dd, dd, dd, dd, dd, dd, dd, dd, dd, dd, dd, dd, dd, dd, dd, dd, dd, dd, dd, dd, dd, dd, dd, dd, dd, dd, dd, dd, dd, dd, dd, dd, dd, dd, dd, dd, dd, dd, dd, dd, dd, dd, dd, dd, dd, dd, dd, dd, dd, dd, dd, dd, dd, dd, dd, dd, dd, dd, dd, dd, dd, dd, dd, dd, dd, dd, dd, dd, dd, dd, dd, dd, dd, dd, dd, dd, dd, dd, dd, dd, dd, dd, dd, dd, dd, dd, dd, dd, dd, dd, dd, dd, dd, dd, dd, dd, dd, dd, dd, dd, dd, dd, dd, dd, dd, dd, dd, dd, dd, dd, dd, dd, dd, dd, dd, dd, dd, dd, dd, dd, dd], []⟩
def G_ringlaw3_InodeTurns_C4_hd (v_r213 : ((List Int) × Int)) (v_z497 : Int) (v_n1 : S_inode_Node) (v_r499 : (S_api_Stat))  : PS := ⟨[dd, dd, dd, .ref 0 0, dd, dd, dd, dd, .d (.sl (v_r213.1.map (eI .u8))), dd, dd, dd, dd, dd, .d (.v (.int .i64 v_z497)), dd, dd, .ref 1 0, dd, dd, dd, dd, dd, dd, dd, dd, dd, dd, dd, dd, dd, dd, dd, dd, dd, dd, dd, dd, dd, dd, dd, dd, dd, dd, dd, dd, dd, dd, dd, dd, dd, dd, dd, dd, dd, dd, dd, dd, dd, dd, dd, dd, dd, dd, dd, dd, dd, dd, dd, dd, dd, dd, dd, dd, dd, dd, dd, dd, dd, dd, dd, dd, dd, dd, dd, dd, dd, dd, dd, dd, dd, dd, dd, dd, dd, dd, dd, dd, dd, dd, dd, dd, dd, dd, dd, dd, dd, dd, dd, dd, dd, dd, dd, dd, dd, dd, dd, dd, dd, dd, dd, dd, dd, dd, dd, dd, dd, dd, dd, dd, dd, dd, dd, dd, dd, dd], [.box [.d (.v (.int .i64 v_n1.fKind)), .d (.v (.int .i64 v_n1.fMode)), .d (.v (.int .i64 v_n1.fUser)), .d (.v (.int .i64 v_n1.fGroup)), .d (.v (.int .i64 v_n1.fSize)), .d (.v (.int .i64 v_n1.fLinks)), .d (.v (.int .i64 v_n1.fUp)), .d (.sl (v_n1.fPoints.map (eI .i64)))], .box [.d (.v (.int .i64 v_r499.fKind)), .d (.v (.int .i64 v_r499.fMode)), .d (.v (.int .i64 v_r499.fUser)), .d (.v (.int .i64 v_r499.fGroup)), .d (.v (.int .i64 v_r499.fSize)), .d (.v (.int .i64 v_r499.fLinks))]]⟩
def G_ringlaw3_InodeTurns_C4 (n : Nat) (v_r213 : ((List Int) × Int)) (v_z497 : Int) (v_n1 : S_inode_Node) (v_r499 : (S_api_Stat)) : Option G_ringlaw3_InodeTurns_C4_R :=
  (G_ringlaw3_node n v_n1).bind fun (v_r515 : (S_ringref3_Node)) =>
  (G_ringref3_NodePack n v_r515).bind fun (v_r516 : (ByteArray)) =>
  if ((b2s v_r213.1).toList == v_r516.toList) = true then
   (G_inode_Used n v_n1).bind fun (v_r517 : (Int)) =>
   if v_r517 = v_z497 then
    some (.x0 (eqRes .eql (eqS_api_Stat v_r499 (S_api_Stat.mk v_n1.fKind v_n1.fMode v_n1.fUser v_n1.fGroup v_n1.fSize v_n1.fLinks))))
   else
    some (.x0 false)
  else
   some (.x0 false)
theorem G_ringlaw3_InodeTurns_C4_ok {Fi : Ex → PS → Prop} (hF : KC 136 Fi) (ks : List Fr) (n : Nat) (v_r213 : ((List Int) × Int)) (v_z497 : Int) (v_n1 : S_inode_Node) (v_r499 : (S_api_Stat))  (o : G_ringlaw3_InodeTurns_C4_R) (h : G_ringlaw3_InodeTurns_C4 n v_r213 v_z497 v_n1 v_r499 = some o) (q : RunE Try.prog 136 Fi ks (G_ringlaw3_InodeTurns_C4_ex o) (G_ringlaw3_InodeTurns_C4_st v_r213 v_z497 v_n1 v_r499 o)) : RunE Try.prog 136 Fi (.s (cL (cR (cR (cR (cR (cR (cR (cR (cR (cR (cR (cR (cR (cR (bodyOf Try.f9))))))))))))))) :: ks) .normal (G_ringlaw3_InodeTurns_C4_hd v_r213 v_z497 v_n1 v_r499) := by
  unfold G_ringlaw3_InodeTurns_C4 at h
  obtain ⟨v_r515, h598, h⟩ := bind_some h
  obtain ⟨v_r516, h599, h⟩ := bind_some h
  by_cases h600 : ((b2s v_r213.1).toList == v_r516.toList) = true
  · rw [if_pos h600] at h
    obtain ⟨v_r517, h601, h⟩ := bind_some h
    by_cases h602 : v_r517 = v_z497
    · rw [if_pos h602] at h
      cases h
      exact pkk_sound TTok mix hF 1 (hs := [.e 5 [] (.d (.v (.string (b2s v_r213.1)))) [], .c, .r (eS_ringref3_Node v_r515), .r (eS v_r516), .t true, .c, .c, .r ((eI .i64) v_r517), .c, .c, .t true, .c, .c, .c, .c, .c, .c, .c, .c, .c, .c, .c, .c, .c, .c, .c, .c, .c, .c, .c, .c, .c, .q (eqS_api_Stat v_r499 (S_api_Stat.mk v_n1.fKind v_n1.fMode v_n1.fUser v_n1.fGroup v_n1.fSize v_n1.fLinks))]) (ts := []) (s := []) (l := [6]) (by kernel_rfl) (by kernel_rfl) (.cons (xb2sD (L := v_r213.1) (P := Try.prog) (T := TT) (src := 107) (dst := 9) (e := 5) (s := 1) (x := (.tmp 107)) (by kernel_rfl) (by kernel_rfl) (by kernel_rfl)) (.cons (G_ringlaw3_node_ok n v_n1 _ h598) (.cons (G_ringref3_NodePack_ok n v_r515 _ h599) (.cons h600 (.cons (G_inode_Used_ok n v_n1 _ h601) (.cons (bt h602) (.cons (eqS_api_Stat_ok v_r499 (S_api_Stat.mk v_n1.fKind v_n1.fMode v_n1.fUser v_n1.fGroup v_n1.fSize v_n1.fLinks)) .nil))))))) q
    · rw [if_neg h602] at h
      cases h
      exact pkk_sound TTok mix hF 1 (hs := [.e 5 [] (.d (.v (.string (b2s v_r213.1)))) [], .c, .r (eS_ringref3_Node v_r515), .r (eS v_r516), .t true, .c, .c, .r ((eI .i64) v_r517), .c, .c, .t false, .c, .c, .c, .c, .c, .c, .c, .c, .c, .c, .c, .c, .c, .c]) (ts := []) (s := []) (l := [6]) (by kernel_rfl) (by kernel_rfl) (.cons (xb2sD (L := v_r213.1) (P := Try.prog) (T := TT) (src := 107) (dst := 9) (e := 5) (s := 1) (x := (.tmp 107)) (by kernel_rfl) (by kernel_rfl) (by kernel_rfl)) (.cons (G_ringlaw3_node_ok n v_n1 _ h598) (.cons (G_ringref3_NodePack_ok n v_r515 _ h599) (.cons h600 (.cons (G_inode_Used_ok n v_n1 _ h601) (.cons (bf h602) .nil)))))) q
  · rw [if_neg h600] at h
    cases h
    exact pkk_sound TTok mix hF 1 (hs := [.e 5 [] (.d (.v (.string (b2s v_r213.1)))) [], .c, .r (eS_ringref3_Node v_r515), .r (eS v_r516), .t false, .c, .c, .c, .c, .c, .c, .c, .c, .c, .c, .c, .c, .c, .c, .c, .c, .c, .c]) (ts := []) (s := []) (l := [6]) (by kernel_rfl) (by kernel_rfl) (.cons (xb2sD (L := v_r213.1) (P := Try.prog) (T := TT) (src := 107) (dst := 9) (e := 5) (s := 1) (x := (.tmp 107)) (by kernel_rfl) (by kernel_rfl) (by kernel_rfl)) (.cons (G_ringlaw3_node_ok n v_n1 _ h598) (.cons (G_ringref3_NodePack_ok n v_r515 _ h599) (.cons (vf h600) .nil)))) q
/- ringhall/ringlaw3.InodeTurns -/
def G_ringlaw3_InodeTurns (n : Nat) (v_n1 : S_inode_Node) (v_b2 : (List Int)) (v_size3 : Int) : Option (Bool) :=
  if (v_n1.fPoints.length : Int) > 30 then
   some true
  else
   if (v_b2.length : Int) > 60 then
    some true
   else
    (G_ringlaw3_node n v_n1).bind fun (v_r5 : (S_ringref3_Node)) =>
    (G_ringref3_NodeRight n v_r5).bind fun (v_r55 : (Int)) =>
    (G_inode_Pack n v_n1).bind fun (v_r213 : ((List Int) × Int)) =>
    (G_inode_Unpack n v_b2).bind fun (v_r290 : (S_inode_Node × Int)) =>
    (G_ringref3_NodeUnpack n (b2s v_b2)).bind fun (v_r447 : (S_ringref3_Node × Int)) =>
    (G_ringlaw3_InodeTurns_C1 n v_size3 v_r55 v_r213 v_r290 v_r447 v_n1).bind fun v_o481 => match v_o481 with
    | .x0 v_z482 =>
      if v_z482 = true then
       some false
      else
       (G_ringlaw3_InodeTurns_C2 n v_size3 v_r55 v_r213 v_n1).bind fun v_o489 => match v_o489 with
       | .x0 v_z490 =>
         if v_z490 = true then
          some false
         else
          if v_r55 = 0 then
           (G_ringlaw3_InodeTurns_L3 n v_r213 v_n1 n 0 0).bind fun v_o496 => match v_o496 with
           | .x0 v_z497 =>
             (G_inode_Stat n v_n1).bind fun (v_r499 : (S_api_Stat)) =>
             if v_n1.fKind = 0 then
              (mkL 1 0 32).bind fun (v_m510 : (List Int)) =>
              if ((b2s v_r213.1).toList == (b2s v_m510).toList) = true then
               (G_inode_Used n v_n1).bind fun (v_r511 : (Int)) =>
               some (v_r511 == 0)
              else
               some false
             else
              (G_ringlaw3_InodeTurns_C4 n v_r213 v_z497 v_n1 v_r499).bind fun v_o521 => match v_o521 with
              | .x0 v_z522 =>
                some v_z522
          else
           some ((v_r213.1.length : Int) == 0)
theorem G_ringlaw3_InodeTurns_ok (n : Nat) (v_n1 : S_inode_Node) (v_b2 : (List Int)) (v_size3 : Int) (r : Bool) (h : G_ringlaw3_InodeTurns n v_n1 v_b2 v_size3 = some r) : Ret Try.prog 9 [eS_inode_Node v_n1, (eL (eI .u8)) v_b2, (eI .i64) v_size3] (eB r) := by
  refine ret_run (n := 136) (fn := Try.f9) (c := bodyOf Try.f9) (by kernel_rfl) (by kernel_rfl) (by kernel_rfl) (by kernel_rfl) ?_
  have hF : KC 136 (FinR Try.prog Try.f9 (eB r)) := FinR.kc' (by kernel_rfl)
  unfold G_ringlaw3_InodeTurns at h
  by_cases h1 : (v_n1.fPoints.length : Int) > 30
  · rw [if_pos h1] at h
    obtain rfl := Option.some.inj h
    exact pend_sound TTok mix 10 (hs := [.c, .u (.d (.v (.int .i64 (v_n1.fPoints.length : Int)))), .t true, .c, .c, .c]) (by kernel_rfl) (by kernel_rfl) (by kernel_rfl) (.cons (len_ob (f := (eI .i64)) (l := v_n1.fPoints)) (.cons (dt h1) .nil))
  · rw [if_neg h1] at h
    by_cases h2 : (v_b2.length : Int) > 60
    · rw [if_pos h2] at h
      obtain rfl := Option.some.inj h
      exact pend_sound TTok mix 10 (hs := [.c, .u (.d (.v (.int .i64 (v_n1.fPoints.length : Int)))), .t false, .c, .u (.d (.v (.int .i64 (v_b2.length : Int)))), .c, .t true]) (by kernel_rfl) (by kernel_rfl) (by kernel_rfl) (.cons (len_ob (f := (eI .i64)) (l := v_n1.fPoints)) (.cons (df h1) (.cons (len_ob (f := (eI .u8)) (l := v_b2)) (.cons (dt h2) .nil))))
    · rw [if_neg h2] at h
      obtain ⟨v_r5, h3, h⟩ := bind_some h
      obtain ⟨v_r55, h59, h⟩ := bind_some h
      obtain ⟨v_r213, h306, h⟩ := bind_some h
      obtain ⟨v_r290, h383, h⟩ := bind_some h
      obtain ⟨v_r447, h518, h⟩ := bind_some h
      obtain ⟨v_o481, h556, h⟩ := bind_some h
      refine pkk_sound TTok mix hF 17 (hs := [.c, .u (.d (.v (.int .i64 (v_n1.fPoints.length : Int)))), .t false, .c, .u (.d (.v (.int .i64 (v_b2.length : Int)))), .c, .t false, .c, .r (eS_ringref3_Node v_r5), .r ((eI .i64) v_r55), .c, .r (.tup [(eL (eI .u8)) v_r213.1, (eI .i64) v_r213.2]), .r (.tup [eS_inode_Node v_r290.1, (eI .i64) v_r290.2]), .c, .e 93 [] (.d (.v (.string (b2s v_b2)))) [], .r (.tup [eS_ringref3_Node v_r447.1, (eI .i64) v_r447.2]), .c]) (ts := []) (s := [0, 81, 108]) (l := [2, 3, 7, 8, 9, 10, 11, 12, 13]) (by kernel_rfl) (by kernel_rfl) (.cons (len_ob (f := (eI .i64)) (l := v_n1.fPoints)) (.cons (df h1) (.cons (len_ob (f := (eI .u8)) (l := v_b2)) (.cons (df h2) (.cons (G_ringlaw3_node_ok n v_n1 _ h3) (.cons (G_ringref3_NodeRight_ok n v_r5 _ h59) (.cons (G_inode_Pack_ok n v_n1 _ h306) (.cons (G_inode_Unpack_ok n v_b2 _ h383) (.cons (show 0 + 8 ≤ 8 by decide) (.cons (xb2sD (L := v_b2) (P := Try.prog) (T := TT) (src := 107) (dst := 9) (e := 5) (s := 1) (x := (.tmp 41)) (by kernel_rfl) (by kernel_rfl) (by kernel_rfl)) (.cons (G_ringref3_NodeUnpack_ok n (b2s v_b2) _ h518) (.cons (show 0 + 8 ≤ 8 by decide) .nil)))))))))))) (G_ringlaw3_InodeTurns_C1_ok hF (.s (cR (cL (cR (cR (cR (cR (cR (cR (bodyOf Try.f9))))))))) :: .s (cR (cR (cR (cR (cR (cR (cR (bodyOf Try.f9)))))))) :: []) n v_size3 v_r55 v_r213 v_r290 v_r447 v_n1 _ h556 ?_)
      cases v_o481 with
      | x0 v_z482 =>
        try dsimp only at h
        by_cases h557 : v_z482 = true
        · rw [if_pos h557] at h
          obtain rfl := Option.some.inj h
          exact pend_sound TTok mix 5 (hs := [.t true]) (by kernel_rfl) (by kernel_rfl) (by kernel_rfl) (.cons h557 .nil)
        · rw [if_neg h557] at h
          obtain ⟨v_o489, h564, h⟩ := bind_some h
          refine pkk_sound TTok mix hF 4 (hs := [.t false]) (ts := []) (s := [0]) (l := [2, 3, 7, 8]) (by kernel_rfl) (by kernel_rfl) (.cons (vf h557) .nil) (G_ringlaw3_InodeTurns_C2_ok hF (.s (cR (cL (cR (cR (cR (cR (cR (cR (cR (bodyOf Try.f9)))))))))) :: .s (cR (cR (cR (cR (cR (cR (cR (cR (bodyOf Try.f9))))))))) :: []) n v_size3 v_r55 v_r213 v_n1 _ h564 ?_)
          cases v_o489 with
          | x0 v_z490 =>
            try dsimp only at h
            by_cases h565 : v_z490 = true
            · rw [if_pos h565] at h
              obtain rfl := Option.some.inj h
              exact pend_sound TTok mix 5 (hs := [.t true]) (by kernel_rfl) (by kernel_rfl) (by kernel_rfl) (.cons h565 .nil)
            · rw [if_neg h565] at h
              by_cases h567 : v_r55 = 0
              · rw [if_pos h567] at h
                obtain ⟨v_o496, h575, h⟩ := bind_some h
                refine pkk_sound TTok mix hF 14 (hs := [.t false, .t false, .c, .u (.d (.v (.int .i64 (v_n1.fPoints.length : Int)))), .n n]) (ts := []) (s := [0]) (l := [3, 8, 14, 81, 82, 83]) (by kernel_rfl) (by kernel_rfl) (.cons (vf h565) (.cons (nf h567) (.cons (len_ob (f := (eI .i64)) (l := v_n1.fPoints)) .nil))) (G_ringlaw3_InodeTurns_L3_ok hF (.b 0 :: .s (cR (cR (cR (cR (cR (cR (cR (cR (cR (cR (cR (bodyOf Try.f9)))))))))))) :: []) n v_r213 v_n1 n 0 0 _ h575 ?_)
                cases v_o496 with
                | x0 v_z497 =>
                  try dsimp only at h
                  obtain ⟨v_r499, h576, h⟩ := bind_some h
                  by_cases h589 : v_n1.fKind = 0
                  · rw [if_pos h589] at h
                    obtain ⟨v_m510, h590, h⟩ := bind_some h
                    by_cases h591 : ((b2s v_r213.1).toList == (b2s v_m510).toList) = true
                    · rw [if_pos h591] at h
                      obtain ⟨v_r511, h592, h⟩ := bind_some h
                      obtain rfl := Option.some.inj h
                      exact pend_sound TTok mix 11 (hs := [.c, .r (eS_api_Stat v_r499), .c, .c, .t true, .e 25 [] (.d (.v (.string (b2s v_r213.1)))) [], .w (v_m510.map (eI .u8)), .e 31 [28] (.d (.v (.string (b2s v_m510)))) [], .t true, .c, .c, .r ((eI .i64) v_r511), .c]) (by kernel_rfl) (by kernel_rfl) (by kernel_rfl) (.cons (G_inode_Stat_ok n v_n1 _ h576) (.cons (show 0 + 6 ≤ 6 by decide) (.cons (bt h589) (.cons (xb2sD (L := v_r213.1) (P := Try.prog) (T := TT) (src := 107) (dst := 9) (e := 5) (s := 1) (x := (.tmp 97)) (by kernel_rfl) (by kernel_rfl) (by kernel_rfl)) (.cons (mkL_ob (f := (eI .u8)) (p := .v (.int .u8 0)) h590 rfl).1 (.cons (mkL_ob (f := (eI .u8)) (p := .v (.int .u8 0)) h590 rfl).2.1 (.cons (mkL_ob (f := (eI .u8)) (p := .v (.int .u8 0)) h590 rfl).2.2.1 (.cons (mkL_ob (f := (eI .u8)) (p := .v (.int .u8 0)) h590 rfl).2.2.2.1 (.cons (mkL_ob (f := (eI .u8)) (p := .v (.int .u8 0)) h590 rfl).2.2.2.2 (.cons (xb2sR (l := 28) (L := v_m510) (P := Try.prog) (T := TT) (src := 107) (dst := 9) (e := 5) (s := 1) (x := (.tmp 99)) (by kernel_rfl) (by kernel_rfl) (by kernel_rfl)) (.cons h591 (.cons (G_inode_Used_ok n v_n1 _ h592) .nil))))))))))))
                    · rw [if_neg h591] at h
                      obtain rfl := Option.some.inj h
                      exact pend_sound TTok mix 11 (hs := [.c, .r (eS_api_Stat v_r499), .c, .c, .t true, .e 25 [] (.d (.v (.string (b2s v_r213.1)))) [], .w (v_m510.map (eI .u8)), .e 31 [28] (.d (.v (.string (b2s v_m510)))) [], .t false, .c, .c]) (by kernel_rfl) (by kernel_rfl) (by kernel_rfl) (.cons (G_inode_Stat_ok n v_n1 _ h576) (.cons (show 0 + 6 ≤ 6 by decide) (.cons (bt h589) (.cons (xb2sD (L := v_r213.1) (P := Try.prog) (T := TT) (src := 107) (dst := 9) (e := 5) (s := 1) (x := (.tmp 97)) (by kernel_rfl) (by kernel_rfl) (by kernel_rfl)) (.cons (mkL_ob (f := (eI .u8)) (p := .v (.int .u8 0)) h590 rfl).1 (.cons (mkL_ob (f := (eI .u8)) (p := .v (.int .u8 0)) h590 rfl).2.1 (.cons (mkL_ob (f := (eI .u8)) (p := .v (.int .u8 0)) h590 rfl).2.2.1 (.cons (mkL_ob (f := (eI .u8)) (p := .v (.int .u8 0)) h590 rfl).2.2.2.1 (.cons (mkL_ob (f := (eI .u8)) (p := .v (.int .u8 0)) h590 rfl).2.2.2.2 (.cons (xb2sR (l := 28) (L := v_m510) (P := Try.prog) (T := TT) (src := 107) (dst := 9) (e := 5) (s := 1) (x := (.tmp 99)) (by kernel_rfl) (by kernel_rfl) (by kernel_rfl)) (.cons (vf h591) .nil)))))))))))
                  · rw [if_neg h589] at h
                    obtain ⟨v_o521, h603, h⟩ := bind_some h
                    refine pkk_sound TTok mix hF 9 (hs := [.c, .r (eS_api_Stat v_r499), .c, .c, .t false]) (ts := []) (s := [0, 7]) (l := [3, 8, 14, 17]) (by kernel_rfl) (by kernel_rfl) (.cons (G_inode_Stat_ok n v_n1 _ h576) (.cons (show 0 + 6 ≤ 6 by decide) (.cons (bf h589) .nil))) (G_ringlaw3_InodeTurns_C4_ok hF (.s (cR (cR (cR (cR (cR (cR (cR (cR (cR (cR (cR (cR (cR (cR (bodyOf Try.f9))))))))))))))) :: []) n v_r213 v_z497 v_n1 v_r499 _ h603 ?_)
                    cases v_o521 with
                    | x0 v_z522 =>
                      try dsimp only at h
                      obtain rfl := Option.some.inj h
                      exact pend_sound TTok mix 1 (hs := []) (by kernel_rfl) (by kernel_rfl) (by kernel_rfl) .nil
              · rw [if_neg h567] at h
                obtain rfl := Option.some.inj h
                exact pend_sound TTok mix 10 (hs := [.t false, .t true, .u (.d (.v (.int .i64 (v_r213.1.length : Int))))]) (by kernel_rfl) (by kernel_rfl) (by kernel_rfl) (.cons (vf h565) (.cons (nt h567) (.cons (len_ob (f := (eI .u8)) (l := v_r213.1)) .nil)))
def okS_inode_Node (x : S_inode_Node) : Prop := (fun a => (Lit.int .i64 a).wf = true) x.fKind ∧ (fun a => (Lit.int .i64 a).wf = true) x.fMode ∧ (fun a => (Lit.int .i64 a).wf = true) x.fUser ∧ (fun a => (Lit.int .i64 a).wf = true) x.fGroup ∧ (fun a => (Lit.int .i64 a).wf = true) x.fSize ∧ (fun a => (Lit.int .i64 a).wf = true) x.fLinks ∧ (fun a => (Lit.int .i64 a).wf = true) x.fUp ∧ (okL 8 (fun a => (Lit.int .i64 a).wf = true)) x.fPoints ∧ True
theorem brS_inode_Node : Br (.pair (.int .i64) (.pair (.int .i64) (.pair (.int .i64) (.pair (.int .i64) (.pair (.int .i64) (.pair (.int .i64) (.pair (.int .i64) (.pair (.slice 8 (.int .i64)) .unit)))))))) (fun x : S_inode_Node => [.v (.int .i64 x.fKind), .v (.int .i64 x.fMode), .v (.int .i64 x.fUser), .v (.int .i64 x.fGroup), .v (.int .i64 x.fSize), .v (.int .i64 x.fLinks), .v (.int .i64 x.fUp), .sl (x.fPoints.map (eI .i64))]) okS_inode_Node := br_map (br_pair (br_int .i64) (br_pair (br_int .i64) (br_pair (br_int .i64) (br_pair (br_int .i64) (br_pair (br_int .i64) (br_pair (br_int .i64) (br_pair (br_int .i64) (br_pair (br_slice (f := (eI .i64)) (ok := (fun a => (Lit.int .i64 a).wf = true)) (br_int .i64) (fun _ => rfl) (by decide)) br_unit)))))))) (fun p => S_inode_Node.mk p.1 p.2.1 p.2.2.1 p.2.2.2.1 p.2.2.2.2.1 p.2.2.2.2.2.1 p.2.2.2.2.2.2.1 p.2.2.2.2.2.2.2.1) (fun p h => ⟨rfl, h⟩)
theorem InodeTurns_walk (H : ∀ (a0 : S_inode_Node) (a1 : (List Int)) (a2 : Int), okS_inode_Node a0 → (okL 1 (fun a => (Lit.int .u8 a).wf = true)) a1 → (fun a => (Lit.int .i64 a).wf = true) a2 → ∃ n, G_ringlaw3_InodeTurns n a0 a1 a2 = some true) (w : World) (v0 : Value) (v1 : Value) (v2 : Value) (h0 : rep.Arg w (.pair (.int .i64) (.pair (.int .i64) (.pair (.int .i64) (.pair (.int .i64) (.pair (.int .i64) (.pair (.int .i64) (.pair (.int .i64) (.pair (.slice 8 (.int .i64)) .unit)))))))) v0) (h1 : rep.Arg w (.slice 1 (.int .u8)) v1) (h2 : rep.Arg w (.int .i64) v2) : Calls Try.prog 9 #[v0, v1, v2] w (help.Ret (.bool true) w) := by
  obtain ⟨a0, o0, r0⟩ := arg_agg brS_inode_Node (by rfl) h0
  obtain ⟨a1, o1, r1⟩ := arg_one (br_slice (f := (eI .u8)) (ok := (fun a => (Lit.int .u8 a).wf = true)) (br_int .u8) (fun _ => rfl) (by decide)) (by rfl) h1
  obtain ⟨a2, o2, r2⟩ := arg_one (br_int .i64) (by rfl) h2
  obtain ⟨n, hn⟩ := H a0 a1 a2 o0 o1 o2
  exact walk_of (G_ringlaw3_InodeTurns_ok n a0 a1 a2 true hn) (RT_cons r0 (RT_cons r1 (RT_cons r2 RT_nil)))
/- FRAME InodeTurns; ringhall/ringlaw3.InodeTurns; (.pair (.int .i64) (.pair (.int .i64) (.pair (.int .i64) (.pair (.int .i64) (.pair (.int .i64) (.pair (.int .i64) (.pair (.int .i64) (.pair (.slice 8 (.int .i64)) .unit)))))))) | (.slice 1 (.int .u8)) | (.int .i64); .agg #[.int .i64 0, .int .i64 0, .int .i64 0, .int .i64 0, .int .i64 0, .int .i64 0, .int .i64 0, .slice none 0 0] | .slice none 0 0 | .int .i64 0 -/
end Go.Proofs.Ytjjjaakefnnbpaa.pv
