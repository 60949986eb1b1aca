/- What the functions compute (part 3): written by gen.py. -/
import Derived.Test.YtjjjaakefnnbpaaGuProcPlaysP2
set_option maxRecDepth 100000
set_option linter.all false
namespace Go.Proofs.Ytjjjaakefnnbpaa.pv
open Go.RowKit
def G_ringlaw5_asked_h_C5_st (v_r1576 : (Int × Int × S_proc_Table)) (v_r1582 : (Int × Int × S_proc_Table)) (v_r1587 : (Int × Int × S_proc_Table)) (v_z1888 : Int) (v_z1889 : Int) (v_z1890 : Int) (v_z1891 : (List S_ringref5_Proc)) (v_d1571 : S_ringlaw5_Deed) (v_y1878 : S_ringref5_Proc) : G_ringlaw5_asked_h_C5_R → PS
  | .x0 v_x1892 v_w1893 => ⟨[.ref 2 0, .srf 3, dd, dd, dd, .ref 4 0, dd, dd, dd, dd, dd, dd, dd, dd, dd, dd, dd, dd, dd, dd, dd, dd, dd, dd, dd, dd, dd, dd, dd, dd, dd, dd, dd, dd, dd, dd, dd, dd, dd, dd, dd, dd, dd, dd, dd, dd, dd, dd, dd, dd, dd, dd, dd, dd, dd, dd, dd, dd, dd, dd, dd, dd, dd, dd, dd, dd, dd, dd, dd, dd, dd, dd, dd, dd, dd, dd, dd, dd, dd, dd, .d (.v (.bool v_x1892)), dd, dd, dd, dd, dd, dd, dd, dd, dd, dd, dd, dd, dd, dd, dd, dd, dd, dd, dd, dd, dd, dd, dd, dd, dd, dd, dd, dd, dd, dd, dd, dd, dd, dd, dd, dd, dd, dd, dd, dd, dd, dd, dd, dd, dd, dd, dd, dd, dd, dd, dd, dd, dd, dd, dd, dd, dd, dd, dd, dd, dd, dd, dd, dd, dd, dd, dd, dd, dd, dd, dd, dd, dd, dd, dd, dd, dd, dd, dd, dd, dd, dd, dd, dd, dd, dd, dd, dd, dd, dd, dd, dd, dd, dd, dd, dd, dd, dd, dd, dd, dd, dd, dd, dd], [.gh 0 (.ref 2 0), .gh 1 (.srf 3), .box ((cS_proc_Table v_r1587.2.2).map FV.d), .row 180 5 (v_w1893.map eS_ringref5_Proc), .box [.d (.v (.int .i64 v_d1571.fKind)), .d (.v (.int .i64 v_d1571.fP)), .d (.v (.int .i64 v_d1571.fN))]]⟩
def G_ringlaw5_asked_h_C5_hd (v_r1576 : (Int × Int × S_proc_Table)) (v_r1582 : (Int × Int × S_proc_Table)) (v_r1587 : (Int × Int × S_proc_Table)) (v_z1888 : Int) (v_z1889 : Int) (v_z1890 : Int) (v_z1891 : (List S_ringref5_Proc)) (v_d1571 : S_ringlaw5_Deed) (v_y1878 : S_ringref5_Proc)  : PS := ⟨[.ref 2 0, .srf 3, dd, dd, dd, .ref 4 0, dd, .d (.v (.int .i64 v_r1576.1)), .d (.v (.int .i64 v_r1576.2.1)), .d (.v (.int .i64 v_r1582.1)), .d (.v (.int .i64 v_r1582.2.1)), .d (.v (.int .i64 v_r1587.1)), .d (.v (.int .i64 v_r1587.2.1)), dd, .ref 5 0, .d (.v (.int .i64 v_z1888)), .d (.v (.int .i64 v_z1889)), .d (.v (.int .i64 v_z1890)), dd, dd, dd, dd, dd, dd, dd, dd, dd, dd, dd, dd, dd, dd, dd, dd, dd, dd, dd, dd, dd, dd, dd, dd, dd, dd, dd, dd, dd, dd, dd, dd, dd, dd, dd, dd, dd, dd, dd, dd, dd, dd, dd, dd, dd, dd, dd, dd, dd, dd, dd, dd, dd, dd, dd, dd, dd, dd, dd, dd, dd, dd, dd, dd, dd, dd, dd, dd, dd, dd, dd, dd, dd, dd, dd, dd, dd, dd, dd, dd, dd, dd, dd, dd, dd, dd, dd, dd, dd, dd, dd, dd, dd, dd, dd, dd, dd, dd, dd, dd, dd, dd, dd, dd, dd, dd, dd, dd, dd, dd, dd, dd, dd, dd, dd, dd, dd, dd, dd, dd, dd, dd, dd, dd, dd, dd, dd, dd, dd, dd, dd, dd, dd, dd, dd, dd, dd, dd, dd, dd, dd, dd, dd, dd, dd, dd, dd, dd, dd, dd, dd, dd, dd, dd, dd, dd, dd, dd, dd, dd, dd, dd, dd, dd, dd, dd, dd], [.gh 0 (.ref 2 0), .gh 1 (.srf 3), .box ((cS_proc_Table v_r1587.2.2).map FV.d), .row 180 5 (v_z1891.map eS_ringref5_Proc), .box [.d (.v (.int .i64 v_d1571.fKind)), .d (.v (.int .i64 v_d1571.fP)), .d (.v (.int .i64 v_d1571.fN))], .box [.d (.v (.int .i64 v_y1878.fId)), .d (.v (.int .i64 v_y1878.fUp)), .d (.v (.int .i64 v_y1878.fGroup)), .d (.v (.int .i64 v_y1878.fStatus)), .d (.v (.bool v_y1878.fEnded))]]⟩
def G_ringlaw5_asked_h_C5 (n : Nat) (v_r1576 : (Int × Int × S_proc_Table)) (v_r1582 : (Int × Int × S_proc_Table)) (v_r1587 : (Int × Int × S_proc_Table)) (v_z1888 : Int) (v_z1889 : Int) (v_z1890 : Int) (v_z1891 : (List S_ringref5_Proc)) (v_d1571 : S_ringlaw5_Deed) (v_y1878 : S_ringref5_Proc) : Option G_ringlaw5_asked_h_C5_R :=
  if v_r1576.2.1 = 0 then
   if v_r1576.1 = v_z1888 then
    if v_r1582.2.1 = 0 then
     if v_r1582.1 = v_y1878.fUp then
      if v_r1587.2.1 = v_z1890 then
       some (.x0 (v_r1587.1 != v_z1889) v_z1891)
      else
       some (.x0 true v_z1891)
     else
      some (.x0 true v_z1891)
    else
     some (.x0 true v_z1891)
   else
    some (.x0 true v_z1891)
  else
   some (.x0 true v_z1891)
theorem G_ringlaw5_asked_h_C5_ok {Fi : Ex → PS → Prop} (hF : KC 185 Fi) (ks : List Fr) (n : Nat) (v_r1576 : (Int × Int × S_proc_Table)) (v_r1582 : (Int × Int × S_proc_Table)) (v_r1587 : (Int × Int × S_proc_Table)) (v_z1888 : Int) (v_z1889 : Int) (v_z1890 : Int) (v_z1891 : (List S_ringref5_Proc)) (v_d1571 : S_ringlaw5_Deed) (v_y1878 : S_ringref5_Proc)  (o : G_ringlaw5_asked_h_C5_R) (h : G_ringlaw5_asked_h_C5 n v_r1576 v_r1582 v_r1587 v_z1888 v_z1889 v_z1890 v_z1891 v_d1571 v_y1878 = some o) (q : RunE Try.prog 185 Fi ks (G_ringlaw5_asked_h_C5_ex o) (G_ringlaw5_asked_h_C5_st v_r1576 v_r1582 v_r1587 v_z1888 v_z1889 v_z1890 v_z1891 v_d1571 v_y1878 o)) : RunE Try.prog 185 Fi (.s (cL (cR (cR (cR (cF (cR (cF (cR (cB (cL (cR (cR (cR (cR (cR (bodyOf Try.f113)))))))))))))))) :: ks) .normal (G_ringlaw5_asked_h_C5_hd v_r1576 v_r1582 v_r1587 v_z1888 v_z1889 v_z1890 v_z1891 v_d1571 v_y1878) := by
  unfold G_ringlaw5_asked_h_C5 at h
  by_cases h1689 : v_r1576.2.1 = 0
  · rw [if_pos h1689] at h
    by_cases h1690 : v_r1576.1 = v_z1888
    · rw [if_pos h1690] at h
      by_cases h1691 : v_r1582.2.1 = 0
      · rw [if_pos h1691] at h
        by_cases h1692 : v_r1582.1 = v_y1878.fUp
        · rw [if_pos h1692] at h
          by_cases h1693 : v_r1587.2.1 = v_z1890
          · rw [if_pos h1693] at h
            cases h
            exact pkk_sound TTok mix hF 1 (hs := [.t false, .c, .c, .t false, .c, .t false, .c, .c, .c, .c, .t false, .c, .c, .t false, .c, .c]) (ts := []) (s := [0, 1, 2, 3, 4]) (l := [0, 1, 5, 80]) (by kernel_rfl) (by kernel_rfl) (.cons (nf h1689) (.cons (nf h1690) (.cons (nf h1691) (.cons (nf h1692) (.cons (nf h1693) .nil))))) q
          · rw [if_neg h1693] at h
            cases h
            exact pkk_sound TTok mix hF 1 (hs := [.t false, .c, .c, .t false, .c, .t false, .c, .c, .c, .c, .t false, .c, .c, .t true, .c, .c]) (ts := []) (s := [0, 1, 2, 3, 4]) (l := [0, 1, 5, 80]) (by kernel_rfl) (by kernel_rfl) (.cons (nf h1689) (.cons (nf h1690) (.cons (nf h1691) (.cons (nf h1692) (.cons (nt h1693) .nil))))) q
        · rw [if_neg h1692] at h
          cases h
          exact pkk_sound TTok mix hF 1 (hs := [.t false, .c, .c, .t false, .c, .t false, .c, .c, .c, .c, .t true, .c, .c, .c, .c, .c]) (ts := []) (s := [0, 1, 2, 3, 4]) (l := [0, 1, 5, 80]) (by kernel_rfl) (by kernel_rfl) (.cons (nf h1689) (.cons (nf h1690) (.cons (nf h1691) (.cons (nt h1692) .nil)))) q
      · rw [if_neg h1691] at h
        cases h
        exact pkk_sound TTok mix hF 1 (hs := [.t false, .c, .c, .t false, .c, .t true, .c, .c, .c, .c, .c, .c, .c, .c, .c]) (ts := []) (s := [0, 1, 2, 3, 4]) (l := [0, 1, 5, 80]) (by kernel_rfl) (by kernel_rfl) (.cons (nf h1689) (.cons (nf h1690) (.cons (nt h1691) .nil))) q
    · rw [if_neg h1690] at h
      cases h
      exact pkk_sound TTok mix hF 1 (hs := [.t false, .c, .c, .t true, .c, .c, .c, .c, .c, .c, .c, .c, .c, .c, .c]) (ts := []) (s := [0, 1, 2, 3, 4]) (l := [0, 1, 5, 80]) (by kernel_rfl) (by kernel_rfl) (.cons (nf h1689) (.cons (nt h1690) .nil)) q
  · rw [if_neg h1689] at h
    cases h
    exact pkk_sound TTok mix hF 1 (hs := [.t true, .c, .c, .c, .c, .c, .c, .c, .c, .c, .c, .c, .c, .c, .c]) (ts := []) (s := [0, 1, 2, 3, 4]) (l := [0, 1, 5, 80]) (by kernel_rfl) (by kernel_rfl) (.cons (nt h1689) .nil) q
inductive G_ringlaw5_asked_h_C6_R where
  | x0 (v_x1857 : Bool) (v_w1858 : (List S_ringref5_Proc))
  | x1 (v_w1859 : (List S_ringref5_Proc))
def G_ringlaw5_asked_h_C6_ex : G_ringlaw5_asked_h_C6_R → Ex
  | .x0 _ _ => .ret
  | .x1 _ => .normal
def G_ringlaw5_asked_h_C6_st (v_r1576 : (Int × Int × S_proc_Table)) (v_r1582 : (Int × Int × S_proc_Table)) (v_r1587 : (Int × Int × S_proc_Table)) (v_r1588 : (Int)) (v_d1571 : S_ringlaw5_Deed) (v_r1570 : (List S_ringref5_Proc)) : G_ringlaw5_asked_h_C6_R → PS
  | .x0 v_x1857 v_w1858 => ⟨[dd, dd, dd, dd, dd, dd, .d (.v (.bool v_x1857)), dd, dd, dd, dd, dd, dd, dd, dd, dd, dd, dd, dd, dd, dd, dd, dd, dd, dd, dd, dd, dd, dd, dd, dd, dd, dd, dd, dd, dd, dd, dd, dd, dd, dd, dd, dd, dd, dd, dd, dd, dd, dd, dd, dd, dd, dd, dd, dd, dd, dd, dd, dd, dd, dd, dd, dd, dd, dd, dd, dd, dd, dd, dd, dd, dd, dd, dd, dd, dd, dd, dd, dd, dd, dd, dd, dd, dd, dd, dd, dd, dd, dd, dd, dd, dd, dd, dd, dd, dd, dd, dd, dd, dd, dd, dd, dd, dd, dd, dd, dd, dd, dd, dd, dd, dd, dd, dd, dd, dd, dd, dd, dd, dd, dd, dd, dd, dd, dd, dd, dd, dd, dd, dd, dd, dd, dd, dd, dd, dd, dd, dd, dd, dd, dd, dd, dd, dd, dd, dd, dd, dd, dd, dd, dd, dd, dd, dd, dd, dd, dd, dd, dd, dd, dd, dd, dd, dd, dd, dd, dd, dd, dd, dd, dd, dd, dd, dd, dd, dd, dd, dd, dd, dd, dd, dd, dd, dd, dd], [.gh 0 (.ref 2 0), .gh 1 (.srf 3), .box ((cS_proc_Table v_r1587.2.2).map FV.d), .row 180 5 (v_w1858.map eS_ringref5_Proc)]⟩
  | .x1 v_w1859 => ⟨[.ref 2 0, .srf 3, dd, dd, dd, .ref 4 0, dd, dd, dd, dd, dd, dd, dd, dd, dd, dd, dd, dd, dd, dd, dd, dd, dd, dd, dd, dd, dd, dd, dd, dd, dd, dd, dd, dd, dd, dd, dd, dd, dd, dd, dd, dd, dd, dd, dd, dd, dd, dd, dd, dd, dd, dd, dd, dd, dd, dd, dd, dd, dd, dd, dd, dd, dd, dd, dd, dd, dd, dd, dd, dd, dd, dd, dd, dd, dd, dd, dd, dd, dd, dd, dd, dd, dd, dd, dd, dd, dd, dd, dd, dd, dd, dd, dd, dd, dd, dd, dd, dd, dd, dd, dd, dd, dd, dd, dd, dd, dd, dd, dd, dd, dd, dd, dd, dd, dd, dd, dd, dd, dd, dd, dd, dd, dd, dd, dd, dd, dd, dd, dd, dd, dd, dd, dd, dd, dd, dd, dd, dd, dd, dd, dd, dd, dd, dd, dd, dd, dd, dd, dd, dd, dd, dd, dd, dd, dd, dd, dd, dd, dd, dd, dd, dd, dd, dd, dd, dd, dd, dd, dd, dd, dd, dd, dd, dd, dd, dd, dd, dd, dd, dd, dd, dd, dd, dd, dd], [.gh 0 (.ref 2 0), .gh 1 (.srf 3), .box ((cS_proc_Table v_r1587.2.2).map FV.d), .row 180 5 (v_w1859.map eS_ringref5_Proc), .box [.d (.v (.int .i64 v_d1571.fKind)), .d (.v (.int .i64 v_d1571.fP)), .d (.v (.int .i64 v_d1571.fN))]]⟩
def G_ringlaw5_asked_h_C6_hd (v_r1576 : (Int × Int × S_proc_Table)) (v_r1582 : (Int × Int × S_proc_Table)) (v_r1587 : (Int × Int × S_proc_Table)) (v_r1588 : (Int)) (v_d1571 : S_ringlaw5_Deed) (v_r1570 : (List S_ringref5_Proc))  : PS := ⟨[.ref 2 0, .srf 3, dd, dd, dd, .ref 4 0, dd, .d (.v (.int .i64 v_r1576.1)), .d (.v (.int .i64 v_r1576.2.1)), .d (.v (.int .i64 v_r1582.1)), .d (.v (.int .i64 v_r1582.2.1)), .d (.v (.int .i64 v_r1587.1)), .d (.v (.int .i64 v_r1587.2.1)), .d (.v (.int .i64 v_r1588)), dd, dd, dd, dd, dd, dd, dd, dd, dd, dd, dd, dd, dd, dd, dd, dd, dd, dd, dd, dd, dd, dd, dd, dd, dd, dd, dd, dd, dd, dd, dd, dd, dd, dd, dd, dd, dd, dd, dd, dd, dd, dd, dd, dd, dd, dd, dd, dd, dd, dd, dd, dd, dd, dd, dd, dd, dd, dd, dd, dd, dd, dd, dd, dd, dd, dd, dd, .d (.v (.bool (decide (v_d1571.fP > 16)))), dd, dd, dd, dd, dd, dd, dd, dd, dd, dd, dd, dd, dd, dd, dd, dd, dd, dd, dd, dd, dd, dd, dd, dd, dd, dd, dd, dd, dd, dd, dd, dd, dd, dd, dd, dd, dd, dd, dd, dd, dd, dd, dd, dd, dd, dd, dd, dd, dd, dd, dd, dd, dd, dd, dd, dd, dd, dd, dd, dd, dd, dd, dd, dd, dd, dd, dd, dd, dd, dd, dd, dd, dd, dd, dd, dd, dd, dd, dd, dd, dd, dd, dd, dd, dd, dd, dd, dd, dd, dd, dd, dd, dd, dd, dd, dd, dd, dd, dd, dd, dd, dd, dd], [.gh 0 (.ref 2 0), .gh 1 (.srf 3), .box ((cS_proc_Table v_r1587.2.2).map FV.d), .row 180 5 (v_r1570.map eS_ringref5_Proc), .box [.d (.v (.int .i64 v_d1571.fKind)), .d (.v (.int .i64 v_d1571.fP)), .d (.v (.int .i64 v_d1571.fN))]]⟩
def G_ringlaw5_asked_h_C6 (n : Nat) (v_r1576 : (Int × Int × S_proc_Table)) (v_r1582 : (Int × Int × S_proc_Table)) (v_r1587 : (Int × Int × S_proc_Table)) (v_r1588 : (Int)) (v_d1571 : S_ringlaw5_Deed) (v_r1570 : (List S_ringref5_Proc)) : Option G_ringlaw5_asked_h_C6_R :=
  if v_d1571.fP > 16 then
   (G_ringlaw5_asked_h_C2 n v_r1576 v_r1582 v_r1587 v_r1570 v_d1571).bind fun v_o1854 => match v_o1854 with
   | .x0 v_z1855 v_z1856 =>
     if v_z1855 = true then
      some (.x0 false v_z1856)
     else
      some (.x1 v_z1856)
  else
   if v_r1588 < 0 then
    (G_ringlaw5_asked_h_C3 n v_r1576 v_r1582 v_r1587 v_r1570 v_d1571).bind fun v_o1872 => match v_o1872 with
    | .x0 v_z1873 v_z1874 =>
      if v_z1873 = true then
       some (.x0 false v_z1874)
      else
       some (.x1 v_z1874)
   else
    if 0 ≤ v_r1588 ∧ (v_r1588).toNat < v_r1570.length then
     (v_r1570[(v_r1588).toNat]?).bind fun (v_y1878 : S_ringref5_Proc) =>
     (G_ringlaw5_asked_h_C4 n v_r1576 v_r1582 v_r1587 v_y1878 v_r1570 v_d1571).bind fun v_o1887 => match v_o1887 with
     | .x0 v_z1888 v_z1889 v_z1890 v_z1891 =>
       (G_ringlaw5_asked_h_C5 n v_r1576 v_r1582 v_r1587 v_z1888 v_z1889 v_z1890 v_z1891 v_d1571 v_y1878).bind fun v_o1904 => match v_o1904 with
       | .x0 v_z1905 v_z1906 =>
         if v_z1905 = true then
          some (.x0 false v_z1906)
         else
          some (.x1 v_z1906)
    else none
theorem G_ringlaw5_asked_h_C6_ok {Fi : Ex → PS → Prop} (hF : KC 185 Fi) (ks : List Fr) (n : Nat) (v_r1576 : (Int × Int × S_proc_Table)) (v_r1582 : (Int × Int × S_proc_Table)) (v_r1587 : (Int × Int × S_proc_Table)) (v_r1588 : (Int)) (v_d1571 : S_ringlaw5_Deed) (v_r1570 : (List S_ringref5_Proc))  (o : G_ringlaw5_asked_h_C6_R) (h : G_ringlaw5_asked_h_C6 n v_r1576 v_r1582 v_r1587 v_r1588 v_d1571 v_r1570 = some o) (q : RunE Try.prog 185 Fi ks (G_ringlaw5_asked_h_C6_ex o) (G_ringlaw5_asked_h_C6_st v_r1576 v_r1582 v_r1587 v_r1588 v_d1571 v_r1570 o)) : RunE Try.prog 185 Fi (.s (cR (cB (cL (cR (cR (cR (cR (cR (bodyOf Try.f113))))))))) :: ks) .normal (G_ringlaw5_asked_h_C6_hd v_r1576 v_r1582 v_r1587 v_r1588 v_d1571 v_r1570) := by
  unfold G_ringlaw5_asked_h_C6 at h
  by_cases h1653 : v_d1571.fP > 16
  · rw [if_pos h1653] at h
    obtain ⟨v_o1854, h1664, h⟩ := bind_some h
    refine pkk_sound TTok mix hF 2 (hs := [.t true]) (ts := []) (s := [0, 1, 2, 3, 4]) (l := [0, 1, 5, 7, 8, 9, 10, 11, 12]) (by kernel_rfl) (by kernel_rfl) (.cons (dt h1653) .nil) (G_ringlaw5_asked_h_C2_ok hF (.s (cR (cT (cR (cB (cL (cR (cR (cR (cR (cR (bodyOf Try.f113))))))))))) :: ks) n v_r1576 v_r1582 v_r1587 v_r1570 v_d1571 _ h1664 ?_)
    cases v_o1854 with
    | x0 v_z1855 v_z1856 =>
      try dsimp only at h
      by_cases h1665 : v_z1855 = true
      · rw [if_pos h1665] at h
        cases h
        exact pkk_sound TTok mix hF 4 (hs := [.t true]) (ts := []) (s := [0, 1, 2, 3]) (l := [6]) (by kernel_rfl) (by kernel_rfl) (.cons h1665 .nil) q
      · rw [if_neg h1665] at h
        cases h
        exact pkk_sound TTok mix hF 2 (hs := [.t false]) (ts := []) (s := [0, 1, 2, 3, 4]) (l := [0, 1, 5]) (by kernel_rfl) (by kernel_rfl) (.cons (vf h1665) .nil) q
  · rw [if_neg h1653] at h
    by_cases h1666 : v_r1588 < 0
    · rw [if_pos h1666] at h
      obtain ⟨v_o1872, h1677, h⟩ := bind_some h
      refine pkk_sound TTok mix hF 5 (hs := [.t false, .t true]) (ts := []) (s := [0, 1, 2, 3, 4]) (l := [0, 1, 5, 7, 8, 9, 10, 11, 12]) (by kernel_rfl) (by kernel_rfl) (.cons (df h1653) (.cons (dt h1666) .nil)) (G_ringlaw5_asked_h_C3_ok hF (.s (cR (cT (cR (cF (cR (cB (cL (cR (cR (cR (cR (cR (bodyOf Try.f113))))))))))))) :: ks) n v_r1576 v_r1582 v_r1587 v_r1570 v_d1571 _ h1677 ?_)
      cases v_o1872 with
      | x0 v_z1873 v_z1874 =>
        try dsimp only at h
        by_cases h1678 : v_z1873 = true
        · rw [if_pos h1678] at h
          cases h
          exact pkk_sound TTok mix hF 4 (hs := [.t true]) (ts := []) (s := [0, 1, 2, 3]) (l := [6]) (by kernel_rfl) (by kernel_rfl) (.cons h1678 .nil) q
        · rw [if_neg h1678] at h
          cases h
          exact pkk_sound TTok mix hF 2 (hs := [.t false]) (ts := []) (s := [0, 1, 2, 3, 4]) (l := [0, 1, 5]) (by kernel_rfl) (by kernel_rfl) (.cons (vf h1678) .nil) q
    · rw [if_neg h1666] at h
      by_cases h1679 : 0 ≤ v_r1588 ∧ (v_r1588).toNat < v_r1570.length
      · rw [if_pos h1679] at h
        obtain ⟨v_y1878, h1680, h⟩ := bind_some h
        obtain ⟨v_o1887, h1683, h⟩ := bind_some h
        refine pkk_sound TTok mix hF 11 (hs := [.t false, .t false, .y (eS_ringref5_Proc v_y1878), .c, .c, .c]) (ts := []) (s := [0, 1, 2, 3, 4, 26]) (l := [0, 1, 5, 7, 8, 9, 10, 11, 12, 14, 15, 16, 17, 53]) (by kernel_rfl) (by kernel_rfl) (.cons (df h1653) (.cons (df h1666) (.cons (idx_ob (f := eS_ringref5_Proc) h1679) (.cons (get_ob (f := eS_ringref5_Proc) h1680) (.cons (show 0 + 5 ≤ 5 by decide) .nil))))) (G_ringlaw5_asked_h_C4_ok hF (.s (cR (cR (cR (cF (cR (cF (cR (cB (cL (cR (cR (cR (cR (cR (bodyOf Try.f113))))))))))))))) :: ks) n v_r1576 v_r1582 v_r1587 v_y1878 v_r1570 v_d1571 _ h1683 ?_)
        cases v_o1887 with
        | x0 v_z1888 v_z1889 v_z1890 v_z1891 =>
          try dsimp only at h
          obtain ⟨v_o1904, h1694, h⟩ := bind_some h
          refine pkk_sound TTok mix hF 1 (hs := []) (ts := []) (s := [0, 1, 2, 3, 4, 5]) (l := [0, 1, 5, 7, 8, 9, 10, 11, 12, 14, 15, 16, 17]) (by kernel_rfl) (by kernel_rfl) .nil (G_ringlaw5_asked_h_C5_ok hF (.s (cR (cR (cR (cR (cF (cR (cF (cR (cB (cL (cR (cR (cR (cR (cR (bodyOf Try.f113)))))))))))))))) :: ks) n v_r1576 v_r1582 v_r1587 v_z1888 v_z1889 v_z1890 v_z1891 v_d1571 v_y1878 _ h1694 ?_)
          cases v_o1904 with
          | x0 v_z1905 v_z1906 =>
            try dsimp only at h
            by_cases h1695 : v_z1905 = true
            · rw [if_pos h1695] at h
              cases h
              exact pkk_sound TTok mix hF 4 (hs := [.t true]) (ts := []) (s := [0, 1, 2, 3]) (l := [6]) (by kernel_rfl) (by kernel_rfl) (.cons h1695 .nil) q
            · rw [if_neg h1695] at h
              cases h
              exact pkk_sound TTok mix hF 2 (hs := [.t false]) (ts := []) (s := [0, 1, 2, 3, 4]) (l := [0, 1, 5]) (by kernel_rfl) (by kernel_rfl) (.cons (vf h1695) .nil) q
      · rw [if_neg h1679] at h; cases h
inductive G_ringlaw5_asked_h_C7_R where
  | x0 (v_x1780 : Bool) (v_w1781 : (List S_ringref5_Proc))
  | x1 (v_w1782 : (List S_ringref5_Proc))
def G_ringlaw5_asked_h_C7_ex : G_ringlaw5_asked_h_C7_R → Ex
  | .x0 _ _ => .ret
  | .x1 _ => .normal
def G_ringlaw5_asked_h_C7_st (v_r1576 : (Int × Int × S_proc_Table)) (v_r1582 : (Int × Int × S_proc_Table)) (v_r1587 : (Int × Int × S_proc_Table)) (v_r1588 : (Int)) (v_r1570 : (List S_ringref5_Proc)) (v_d1571 : S_ringlaw5_Deed) : G_ringlaw5_asked_h_C7_R → PS
  | .x0 v_x1780 v_w1781 => ⟨[dd, dd, dd, dd, dd, dd, .d (.v (.bool v_x1780)), dd, dd, dd, dd, dd, dd, dd, dd, dd, dd, dd, dd, dd, dd, dd, dd, dd, dd, dd, dd, dd, dd, dd, dd, dd, dd, dd, dd, dd, dd, dd, dd, dd, dd, dd, dd, dd, dd, dd, dd, dd, dd, dd, dd, dd, dd, dd, dd, dd, dd, dd, dd, dd, dd, dd, dd, dd, dd, dd, dd, dd, dd, dd, dd, dd, dd, dd, dd, dd, dd, dd, dd, dd, dd, dd, dd, dd, dd, dd, dd, dd, dd, dd, dd, dd, dd, dd, dd, dd, dd, dd, dd, dd, dd, dd, dd, dd, dd, dd, dd, dd, dd, dd, dd, dd, dd, dd, dd, dd, dd, dd, dd, dd, dd, dd, dd, dd, dd, dd, dd, dd, dd, dd, dd, dd, dd, dd, dd, dd, dd, dd, dd, dd, dd, dd, dd, dd, dd, dd, dd, dd, dd, dd, dd, dd, dd, dd, dd, dd, dd, dd, dd, dd, dd, dd, dd, dd, dd, dd, dd, dd, dd, dd, dd, dd, dd, dd, dd, dd, dd, dd, dd, dd, dd, dd, dd, dd, dd], [.gh 0 (.ref 2 0), .gh 1 (.srf 3), .box ((cS_proc_Table v_r1587.2.2).map FV.d), .row 180 5 (v_w1781.map eS_ringref5_Proc)]⟩
  | .x1 v_w1782 => ⟨[.ref 2 0, .srf 3, dd, dd, dd, .ref 4 0, dd, dd, dd, dd, dd, dd, dd, dd, dd, dd, dd, dd, dd, dd, dd, dd, dd, dd, dd, dd, dd, dd, dd, dd, dd, dd, dd, dd, dd, dd, dd, dd, dd, dd, dd, dd, dd, dd, dd, dd, dd, dd, dd, dd, dd, dd, dd, dd, dd, dd, dd, dd, dd, dd, dd, dd, dd, dd, dd, dd, dd, dd, dd, dd, dd, dd, dd, dd, dd, dd, dd, dd, dd, dd, dd, dd, dd, dd, dd, dd, dd, dd, dd, dd, dd, dd, dd, dd, dd, dd, dd, dd, dd, dd, dd, dd, dd, dd, dd, dd, dd, dd, dd, dd, dd, dd, dd, dd, dd, dd, dd, dd, dd, dd, dd, dd, dd, dd, dd, dd, dd, dd, dd, dd, dd, dd, dd, dd, dd, dd, dd, dd, dd, dd, dd, dd, dd, dd, dd, dd, dd, dd, dd, dd, dd, dd, dd, dd, dd, dd, dd, dd, dd, dd, dd, dd, dd, dd, dd, dd, dd, dd, dd, dd, dd, dd, dd, dd, dd, dd, dd, dd, dd, dd, dd, dd, dd, dd, dd], [.gh 0 (.ref 2 0), .gh 1 (.srf 3), .box ((cS_proc_Table v_r1587.2.2).map FV.d), .row 180 5 (v_w1782.map eS_ringref5_Proc), .box [.d (.v (.int .i64 v_d1571.fKind)), .d (.v (.int .i64 v_d1571.fP)), .d (.v (.int .i64 v_d1571.fN))]]⟩
def G_ringlaw5_asked_h_C7_hd (v_r1576 : (Int × Int × S_proc_Table)) (v_r1582 : (Int × Int × S_proc_Table)) (v_r1587 : (Int × Int × S_proc_Table)) (v_r1588 : (Int)) (v_r1570 : (List S_ringref5_Proc)) (v_d1571 : S_ringlaw5_Deed)  : PS := ⟨[.ref 2 0, .srf 3, dd, dd, dd, .ref 4 0, dd, .d (.v (.int .i64 v_r1576.1)), .d (.v (.int .i64 v_r1576.2.1)), .d (.v (.int .i64 v_r1582.1)), .d (.v (.int .i64 v_r1582.2.1)), .d (.v (.int .i64 v_r1587.1)), .d (.v (.int .i64 v_r1587.2.1)), .d (.v (.int .i64 v_r1588)), dd, dd, dd, dd, dd, dd, dd, dd, dd, dd, dd, dd, dd, dd, dd, dd, dd, dd, dd, dd, dd, dd, dd, dd, dd, dd, dd, dd, dd, dd, dd, dd, dd, dd, dd, dd, dd, dd, dd, dd, dd, dd, dd, dd, dd, dd, dd, dd, dd, dd, dd, dd, dd, dd, dd, dd, dd, dd, dd, dd, dd, dd, dd, dd, dd, dd, dd, dd, dd, dd, dd, dd, dd, dd, dd, dd, dd, dd, dd, dd, dd, dd, dd, dd, dd, dd, dd, dd, dd, dd, dd, dd, dd, dd, dd, dd, dd, dd, dd, dd, dd, dd, dd, dd, dd, dd, dd, dd, dd, dd, dd, dd, dd, dd, dd, dd, dd, dd, dd, dd, dd, dd, dd, dd, dd, dd, dd, dd, dd, dd, dd, dd, dd, dd, dd, dd, dd, dd, dd, dd, dd, dd, dd, dd, dd, dd, dd, dd, dd, dd, dd, dd, dd, dd, dd, dd, dd, dd, dd, dd, dd, dd, dd, dd, dd, dd, dd, dd, dd, dd, dd], [.gh 0 (.ref 2 0), .gh 1 (.srf 3), .box ((cS_proc_Table v_r1587.2.2).map FV.d), .row 180 5 (v_r1570.map eS_ringref5_Proc), .box [.d (.v (.int .i64 v_d1571.fKind)), .d (.v (.int .i64 v_d1571.fP)), .d (.v (.int .i64 v_d1571.fN))]]⟩
def G_ringlaw5_asked_h_C7 (n : Nat) (v_r1576 : (Int × Int × S_proc_Table)) (v_r1582 : (Int × Int × S_proc_Table)) (v_r1587 : (Int × Int × S_proc_Table)) (v_r1588 : (Int)) (v_r1570 : (List S_ringref5_Proc)) (v_d1571 : S_ringlaw5_Deed) : Option G_ringlaw5_asked_h_C7_R :=
  if v_d1571.fP < 1 then
   (G_ringlaw5_asked_h_C1 n v_r1576 v_r1582 v_r1587 v_r1570 v_d1571).bind fun v_o1777 => match v_o1777 with
   | .x0 v_z1778 v_z1779 =>
     if v_z1778 = true then
      some (.x0 false v_z1779)
     else
      some (.x1 v_z1779)
  else
   (G_ringlaw5_asked_h_C6 n v_r1576 v_r1582 v_r1587 v_r1588 v_d1571 v_r1570).bind fun v_o1910 => match v_o1910 with
   | .x0 v_z1911 v_z1912 =>
     some (.x0 v_z1911 v_z1912)
   | .x1 v_z1915 =>
     some (.x1 v_z1915)
theorem G_ringlaw5_asked_h_C7_ok {Fi : Ex → PS → Prop} (hF : KC 185 Fi) (ks : List Fr) (n : Nat) (v_r1576 : (Int × Int × S_proc_Table)) (v_r1582 : (Int × Int × S_proc_Table)) (v_r1587 : (Int × Int × S_proc_Table)) (v_r1588 : (Int)) (v_r1570 : (List S_ringref5_Proc)) (v_d1571 : S_ringlaw5_Deed)  (o : G_ringlaw5_asked_h_C7_R) (h : G_ringlaw5_asked_h_C7 n v_r1576 v_r1582 v_r1587 v_r1588 v_r1570 v_d1571 = some o) (q : RunE Try.prog 185 Fi ks (G_ringlaw5_asked_h_C7_ex o) (G_ringlaw5_asked_h_C7_st v_r1576 v_r1582 v_r1587 v_r1588 v_r1570 v_d1571 o)) : RunE Try.prog 185 Fi (.s (cL (cR (cR (cR (cR (cR (bodyOf Try.f113))))))) :: ks) .normal (G_ringlaw5_asked_h_C7_hd v_r1576 v_r1582 v_r1587 v_r1588 v_r1570 v_d1571) := by
  unfold G_ringlaw5_asked_h_C7 at h
  by_cases h1585 : v_d1571.fP < 1
  · rw [if_pos h1585] at h
    obtain ⟨v_o1777, h1608, h⟩ := bind_some h
    refine pkk_sound TTok mix hF 5 (hs := [.c, .t true, .c, .c, .c]) (ts := []) (s := [0, 1, 2, 3, 4]) (l := [0, 1, 5, 7, 8, 9, 10, 11, 12]) (by kernel_rfl) (by kernel_rfl) (.cons (dt h1585) .nil) (G_ringlaw5_asked_h_C1_ok hF (.s (cR (cT (cR (cB (cL (cR (cR (cR (cR (cR (bodyOf Try.f113))))))))))) :: .b 0 :: ks) n v_r1576 v_r1582 v_r1587 v_r1570 v_d1571 _ h1608 ?_)
    cases v_o1777 with
    | x0 v_z1778 v_z1779 =>
      try dsimp only at h
      by_cases h1609 : v_z1778 = true
      · rw [if_pos h1609] at h
        cases h
        exact pkk_sound TTok mix hF 5 (hs := [.t true]) (ts := []) (s := [0, 1, 2, 3]) (l := [6]) (by kernel_rfl) (by kernel_rfl) (.cons h1609 .nil) q
      · rw [if_neg h1609] at h
        cases h
        exact pkk_sound TTok mix hF 3 (hs := [.t false]) (ts := []) (s := [0, 1, 2, 3, 4]) (l := [0, 1, 5]) (by kernel_rfl) (by kernel_rfl) (.cons (vf h1609) .nil) q
  · rw [if_neg h1585] at h
    obtain ⟨v_o1910, h1696, h⟩ := bind_some h
    refine pkk_sound TTok mix hF 3 (hs := [.c, .t false, .c, .c, .c]) (ts := []) (s := [0, 1, 2, 3, 4]) (l := [0, 1, 5, 7, 8, 9, 10, 11, 12, 13, 81]) (by kernel_rfl) (by kernel_rfl) (.cons (df h1585) .nil) (G_ringlaw5_asked_h_C6_ok hF (.b 0 :: ks) n v_r1576 v_r1582 v_r1587 v_r1588 v_d1571 v_r1570 _ h1696 ?_)
    cases v_o1910 with
    | x0 v_z1911 v_z1912 =>
      try dsimp only at h
      cases h
      exact pkk_sound TTok mix hF 1 (hs := []) (ts := []) (s := [0, 1, 2, 3]) (l := [6]) (by kernel_rfl) (by kernel_rfl) .nil q
    | x1 v_z1915 =>
      try dsimp only at h
      cases h
      exact pkk_sound TTok mix hF 1 (hs := []) (ts := []) (s := [0, 1, 2, 3, 4]) (l := [0, 1, 5]) (by kernel_rfl) (by kernel_rfl) .nil q
inductive G_ringlaw5_asked_h_C8_R where
  | x0 (v_w1930 : (List S_ringref5_Proc)) (v_w1931 : (List Int))
def G_ringlaw5_asked_h_C8_ex : G_ringlaw5_asked_h_C8_R → Ex
  | .x0 _ _ => .normal
def G_ringlaw5_asked_h_C8_st (v_z1920 : (List S_ringref5_Proc)) (v_x1921 : Int) (v_r1587 : (Int × Int × S_proc_Table)) (v_w1922 : (List S_ringref5_Proc)) (v_d1571 : S_ringlaw5_Deed) (v_w1923 : (List Int)) : G_ringlaw5_asked_h_C8_R → PS
  | .x0 v_w1930 v_w1931 => ⟨[.ref 2 0, .srf 3, dd, dd, dd, .ref 4 0, dd, dd, dd, dd, dd, dd, dd, dd, dd, dd, dd, dd, .srf 5, dd, dd, dd, dd, dd, dd, dd, dd, dd, dd, dd, dd, dd, dd, dd, dd, dd, dd, dd, dd, dd, dd, dd, dd, dd, dd, dd, dd, dd, dd, dd, dd, dd, dd, dd, dd, dd, dd, dd, dd, dd, dd, dd, dd, dd, dd, dd, dd, dd, dd, dd, dd, dd, dd, dd, dd, dd, dd, dd, dd, dd, dd, dd, dd, dd, dd, dd, dd, dd, dd, dd, dd, dd, dd, dd, dd, dd, dd, dd, dd, dd, dd, dd, dd, dd, dd, dd, dd, dd, dd, dd, dd, dd, dd, dd, dd, dd, dd, dd, dd, dd, dd, dd, dd, dd, dd, dd, dd, dd, dd, dd, dd, dd, dd, dd, dd, dd, dd, dd, dd, dd, .srf 3, .d (.v (.int .i64 (v_z1920.length : Int))), .d (.v (.int .i64 v_x1921)), dd, dd, dd, dd, dd, dd, dd, dd, dd, dd, dd, dd, dd, dd, dd, dd, dd, dd, dd, dd, dd, dd, dd, dd, dd, dd, dd, dd, dd, dd, dd, dd, dd, dd, dd, dd, dd, dd, dd, dd, dd, dd], [.gh 0 (.ref 2 0), .gh 1 (.srf 3), .box ((cS_proc_Table v_r1587.2.2).map FV.d), .row 180 5 (v_w1930.map eS_ringref5_Proc), .box [.d (.v (.int .i64 v_d1571.fKind)), .d (.v (.int .i64 v_d1571.fP)), .d (.v (.int .i64 v_d1571.fN))], .row 3 1 (v_w1931.map (eI .i64))]⟩
def G_ringlaw5_asked_h_C8_hd (v_z1920 : (List S_ringref5_Proc)) (v_x1921 : Int) (v_r1587 : (Int × Int × S_proc_Table)) (v_w1922 : (List S_ringref5_Proc)) (v_d1571 : S_ringlaw5_Deed) (v_w1923 : (List Int))  : PS := ⟨[.ref 2 0, .srf 3, dd, dd, dd, .ref 4 0, dd, dd, dd, dd, dd, dd, dd, dd, dd, dd, dd, dd, .srf 5, dd, dd, dd, dd, dd, dd, dd, dd, dd, dd, dd, dd, dd, dd, dd, dd, dd, dd, dd, dd, dd, dd, dd, dd, dd, dd, dd, dd, dd, dd, dd, dd, dd, dd, dd, dd, dd, dd, dd, dd, dd, dd, dd, dd, dd, dd, dd, dd, dd, dd, dd, dd, dd, dd, dd, dd, dd, dd, dd, dd, dd, dd, dd, dd, dd, dd, dd, dd, dd, dd, dd, dd, dd, dd, dd, dd, dd, dd, dd, dd, dd, dd, dd, dd, dd, dd, dd, dd, dd, dd, dd, dd, dd, dd, dd, dd, dd, dd, dd, dd, dd, dd, dd, dd, dd, dd, dd, dd, dd, dd, dd, dd, dd, dd, dd, dd, dd, dd, dd, dd, dd, .srf 3, .d (.v (.int .i64 (v_z1920.length : Int))), .d (.v (.int .i64 v_x1921)), dd, dd, dd, dd, dd, dd, dd, dd, dd, dd, dd, dd, dd, dd, dd, dd, dd, dd, dd, dd, dd, dd, dd, dd, dd, dd, dd, dd, dd, dd, dd, dd, dd, dd, dd, dd, dd, dd, dd, dd, dd, dd], [.gh 0 (.ref 2 0), .gh 1 (.srf 3), .box ((cS_proc_Table v_r1587.2.2).map FV.d), .row 180 5 (v_w1922.map eS_ringref5_Proc), .box [.d (.v (.int .i64 v_d1571.fKind)), .d (.v (.int .i64 v_d1571.fP)), .d (.v (.int .i64 v_d1571.fN))], .row 3 1 (v_w1923.map (eI .i64))]⟩
def G_ringlaw5_asked_h_C8 (n : Nat) (v_z1920 : (List S_ringref5_Proc)) (v_x1921 : Int) (v_r1587 : (Int × Int × S_proc_Table)) (v_w1922 : (List S_ringref5_Proc)) (v_d1571 : S_ringlaw5_Deed) (v_w1923 : (List Int)) : Option G_ringlaw5_asked_h_C8_R :=
  if 0 ≤ v_x1921 ∧ (v_x1921).toNat < v_w1922.length then
   (v_w1922[(v_x1921).toNat]?).bind fun (v_y1927 : S_ringref5_Proc) =>
   if v_y1927.fUp = v_d1571.fN then
    if v_d1571.fN > 0 then
     (app 8 v_w1923 ([v_y1927.fId])).bind fun (v_a1929 : (List Int)) =>
     some (.x0 v_w1922 v_a1929)
    else
     some (.x0 v_w1922 v_w1923)
   else
    some (.x0 v_w1922 v_w1923)
  else none
theorem G_ringlaw5_asked_h_C8_ok {Fi : Ex → PS → Prop} (hF : KC 185 Fi) (ks : List Fr) (n : Nat) (v_z1920 : (List S_ringref5_Proc)) (v_x1921 : Int) (v_r1587 : (Int × Int × S_proc_Table)) (v_w1922 : (List S_ringref5_Proc)) (v_d1571 : S_ringlaw5_Deed) (v_w1923 : (List Int))  (o : G_ringlaw5_asked_h_C8_R) (h : G_ringlaw5_asked_h_C8 n v_z1920 v_x1921 v_r1587 v_w1922 v_d1571 v_w1923 = some o) (q : RunE Try.prog 185 Fi ks (G_ringlaw5_asked_h_C8_ex o) (G_ringlaw5_asked_h_C8_st v_z1920 v_x1921 v_r1587 v_w1922 v_d1571 v_w1923 o)) : RunE Try.prog 185 Fi (.s (cL (cR (cR (cP (cB (cR (cL (cR (cR (cR (cR (cR (cR (cR (bodyOf Try.f113))))))))))))))) :: ks) .normal (G_ringlaw5_asked_h_C8_hd v_z1920 v_x1921 v_r1587 v_w1922 v_d1571 v_w1923) := by
  unfold G_ringlaw5_asked_h_C8 at h
  by_cases h1706 : 0 ≤ v_x1921 ∧ (v_x1921).toNat < v_w1922.length
  · rw [if_pos h1706] at h
    obtain ⟨v_y1927, h1707, h⟩ := bind_some h
    by_cases h1708 : v_y1927.fUp = v_d1571.fN
    · rw [if_pos h1708] at h
      by_cases h1711 : v_d1571.fN > 0
      · rw [if_pos h1711] at h
        obtain ⟨v_a1929, h1712, h⟩ := bind_some h
        cases h
        exact pkk_sound TTok mix hF 8 (hs := [.y (eS_ringref5_Proc v_y1927), .c, .c, .c, .t true, .c, .c, .c, .t true, .c, .bd, .w (v_a1929.map (eI .i64))]) (ts := []) (s := [0, 1, 2, 3, 4, 60]) (l := [0, 1, 5, 18, 140, 141, 142]) (by kernel_rfl) (by kernel_rfl) (.cons (idx_ob (f := eS_ringref5_Proc) h1706) (.cons (get_ob (f := eS_ringref5_Proc) h1707) (.cons (show 0 + 5 ≤ 5 by decide) (.cons (bt h1708) (.cons (dt h1711) (.cons (app_ob (f := (eI .i64)) (s := 1) h1712 (fun _ => rfl)).1 (.cons (app_ob (f := (eI .i64)) (s := 1) h1712 (fun _ => rfl)).2.1 (.cons (app_ob (f := (eI .i64)) (s := 1) h1712 (fun _ => rfl)).2.2.1 (.cons (app_ob (f := (eI .i64)) (s := 1) h1712 (fun _ => rfl)).2.2.2 .nil))))))))) q
      · rw [if_neg h1711] at h
        cases h
        exact pkk_sound TTok mix hF 8 (hs := [.y (eS_ringref5_Proc v_y1927), .c, .c, .c, .t true, .c, .c, .c, .t false]) (ts := []) (s := [0, 1, 2, 3, 4, 5]) (l := [0, 1, 5, 18, 140, 141, 142]) (by kernel_rfl) (by kernel_rfl) (.cons (idx_ob (f := eS_ringref5_Proc) h1706) (.cons (get_ob (f := eS_ringref5_Proc) h1707) (.cons (show 0 + 5 ≤ 5 by decide) (.cons (bt h1708) (.cons (df h1711) .nil))))) q
    · rw [if_neg h1708] at h
      cases h
      exact pkk_sound TTok mix hF 8 (hs := [.y (eS_ringref5_Proc v_y1927), .c, .c, .c, .t false, .c, .c, .c]) (ts := []) (s := [0, 1, 2, 3, 4, 5]) (l := [0, 1, 5, 18, 140, 141, 142]) (by kernel_rfl) (by kernel_rfl) (.cons (idx_ob (f := eS_ringref5_Proc) h1706) (.cons (get_ob (f := eS_ringref5_Proc) h1707) (.cons (show 0 + 5 ≤ 5 by decide) (.cons (bf h1708) .nil)))) q
  · rw [if_neg h1706] at h; cases h
inductive G_ringlaw5_asked_h_L9_R where
  | x0 (v_w1939 : (List S_ringref5_Proc)) (v_w1940 : (List Int))
def G_ringlaw5_asked_h_L9_ex : G_ringlaw5_asked_h_L9_R → Ex
  | .x0 _ _ => .exit 1
def G_ringlaw5_asked_h_L9_st (v_z1920 : (List S_ringref5_Proc)) (v_r1587 : (Int × Int × S_proc_Table)) (v_d1571 : S_ringlaw5_Deed) : G_ringlaw5_asked_h_L9_R → PS
  | .x0 v_w1939 v_w1940 => ⟨[.ref 2 0, .srf 3, dd, dd, dd, .ref 4 0, dd, dd, dd, dd, dd, dd, dd, dd, dd, dd, dd, dd, .srf 5, dd, dd, dd, dd, dd, dd, dd, dd, dd, dd, dd, dd, dd, dd, dd, dd, dd, dd, dd, dd, dd, dd, dd, dd, dd, dd, dd, dd, dd, dd, dd, dd, dd, dd, dd, dd, dd, dd, dd, dd, dd, dd, dd, dd, dd, dd, dd, dd, dd, dd, dd, dd, dd, dd, dd, dd, dd, dd, dd, dd, dd, dd, dd, dd, dd, dd, dd, dd, dd, dd, dd, dd, dd, dd, dd, dd, dd, dd, dd, dd, dd, dd, dd, dd, dd, dd, dd, dd, dd, dd, dd, dd, dd, dd, dd, dd, dd, dd, dd, dd, dd, dd, dd, dd, dd, dd, dd, dd, dd, dd, dd, dd, dd, dd, dd, dd, dd, dd, dd, dd, dd, dd, dd, dd, dd, dd, dd, dd, dd, dd, dd, dd, dd, dd, dd, dd, dd, dd, dd, dd, dd, dd, dd, dd, dd, dd, dd, dd, dd, dd, dd, dd, dd, dd, dd, dd, dd, dd, dd, dd, dd, dd, dd, dd, dd, dd], [.gh 0 (.ref 2 0), .gh 1 (.srf 3), .box ((cS_proc_Table v_r1587.2.2).map FV.d), .row 180 5 (v_w1939.map eS_ringref5_Proc), .box [.d (.v (.int .i64 v_d1571.fKind)), .d (.v (.int .i64 v_d1571.fP)), .d (.v (.int .i64 v_d1571.fN))], .row 3 1 (v_w1940.map (eI .i64))]⟩
def G_ringlaw5_asked_h_L9_hd (v_z1920 : (List S_ringref5_Proc)) (v_r1587 : (Int × Int × S_proc_Table)) (v_d1571 : S_ringlaw5_Deed) (v_x1921 : Int) (v_w1922 : (List S_ringref5_Proc)) (v_w1923 : (List Int)) : PS := ⟨[.ref 2 0, .srf 3, dd, dd, dd, .ref 4 0, dd, dd, dd, dd, dd, dd, dd, dd, dd, dd, dd, dd, .srf 5, dd, dd, dd, dd, dd, dd, dd, dd, dd, dd, dd, dd, dd, dd, dd, dd, dd, dd, dd, dd, dd, dd, dd, dd, dd, dd, dd, dd, dd, dd, dd, dd, dd, dd, dd, dd, dd, dd, dd, dd, dd, dd, dd, dd, dd, dd, dd, dd, dd, dd, dd, dd, dd, dd, dd, dd, dd, dd, dd, dd, dd, dd, dd, dd, dd, dd, dd, dd, dd, dd, dd, dd, dd, dd, dd, dd, dd, dd, dd, dd, dd, dd, dd, dd, dd, dd, dd, dd, dd, dd, dd, dd, dd, dd, dd, dd, dd, dd, dd, dd, dd, dd, dd, dd, dd, dd, dd, dd, dd, dd, dd, dd, dd, dd, dd, dd, dd, dd, dd, dd, dd, .srf 3, .d (.v (.int .i64 (v_z1920.length : Int))), .d (.v (.int .i64 v_x1921)), dd, dd, dd, dd, dd, dd, dd, dd, dd, dd, dd, dd, dd, dd, dd, dd, dd, dd, dd, dd, dd, dd, dd, dd, dd, dd, dd, dd, dd, dd, dd, dd, dd, dd, dd, dd, dd, dd, dd, dd, dd, dd], [.gh 0 (.ref 2 0), .gh 1 (.srf 3), .box ((cS_proc_Table v_r1587.2.2).map FV.d), .row 180 5 (v_w1922.map eS_ringref5_Proc), .box [.d (.v (.int .i64 v_d1571.fKind)), .d (.v (.int .i64 v_d1571.fP)), .d (.v (.int .i64 v_d1571.fN))], .row 3 1 (v_w1923.map (eI .i64))]⟩
def G_ringlaw5_asked_h_L9 (n : Nat) (v_z1920 : (List S_ringref5_Proc)) (v_r1587 : (Int × Int × S_proc_Table)) (v_d1571 : S_ringlaw5_Deed) : Nat → Int → (List S_ringref5_Proc) → (List Int) → Option G_ringlaw5_asked_h_L9_R
  | 0, _, _, _ => none
  | k + 1, v_x1921, v_w1922, v_w1923 =>
    if v_x1921 < (v_z1920.length : Int) then
     (G_ringlaw5_asked_h_C8 n v_z1920 v_x1921 v_r1587 v_w1922 v_d1571 v_w1923).bind fun v_o1936 => match v_o1936 with
     | .x0 v_z1937 v_z1938 =>
       G_ringlaw5_asked_h_L9 n v_z1920 v_r1587 v_d1571 k (wi .i64 (v_x1921 + 1)) v_z1937 v_z1938
    else
     some (.x0 v_w1922 v_w1923)
theorem G_ringlaw5_asked_h_L9_ok {Fi : Ex → PS → Prop} (hF : KC 185 Fi) (ks : List Fr) (n : Nat) (v_z1920 : (List S_ringref5_Proc)) (v_r1587 : (Int × Int × S_proc_Table)) (v_d1571 : S_ringlaw5_Deed)  : ∀ (k : Nat) (v_x1921 : Int) (v_w1922 : (List S_ringref5_Proc)) (v_w1923 : (List Int)) (o : G_ringlaw5_asked_h_L9_R), G_ringlaw5_asked_h_L9 n v_z1920 v_r1587 v_d1571 k v_x1921 v_w1922 v_w1923 = some o → RunE Try.prog 185 Fi ks (G_ringlaw5_asked_h_L9_ex o) (G_ringlaw5_asked_h_L9_st v_z1920 v_r1587 v_d1571 o) → RunE Try.prog 185 Fi (.l k (cP (cB (cR (cL (cR (cR (cR (cR (cR (cR (cR (bodyOf Try.f113)))))))))))) :: ks) .normal (G_ringlaw5_asked_h_L9_hd v_z1920 v_r1587 v_d1571 v_x1921 v_w1922 v_w1923)
  | 0, v_x1921, v_w1922, v_w1923, o, h, q => by rw [G_ringlaw5_asked_h_L9] at h; cases h
  | k + 1, v_x1921, v_w1922, v_w1923, o, h, q => by
    rw [G_ringlaw5_asked_h_L9] at h
    by_cases h1698 : v_x1921 < (v_z1920.length : Int)
    · rw [if_pos h1698] at h
      obtain ⟨v_o1936, h1713, h⟩ := bind_some h
      refine pkk_sound TTok mix hF 7 (hs := [.t true]) (ts := []) (s := [0, 1, 2, 3, 4, 5]) (l := [0, 1, 5, 18, 140, 141, 142]) (by kernel_rfl) (by kernel_rfl) (.cons (dt h1698) .nil) (G_ringlaw5_asked_h_C8_ok hF (.s (cR (cR (cR (cP (cB (cR (cL (cR (cR (cR (cR (cR (cR (cR (bodyOf Try.f113))))))))))))))) :: .l k (cP (cB (cR (cL (cR (cR (cR (cR (cR (cR (cR (bodyOf Try.f113)))))))))))) :: ks) n v_z1920 v_x1921 v_r1587 v_w1922 v_d1571 v_w1923 _ h1713 ?_)
      cases v_o1936 with
      | x0 v_z1937 v_z1938 =>
        try dsimp only at h
        exact pkk_sound TTok mix hF 1 (hs := []) (ts := []) (s := [0, 1, 2, 3, 4, 5]) (l := [0, 1, 5, 18, 140, 141, 142]) (by kernel_rfl) (by kernel_rfl) .nil (G_ringlaw5_asked_h_L9_ok hF ks n v_z1920 v_r1587 v_d1571 k (wi .i64 (v_x1921 + 1)) v_z1937 v_z1938 _ h q)
    · rw [if_neg h1698] at h
      cases h
      exact pkk_sound TTok mix hF 8 (hs := [.t false]) (ts := []) (s := [0, 1, 2, 3, 4, 5]) (l := [0, 1, 5, 18]) (by kernel_rfl) (by kernel_rfl) (.cons (df h1698) .nil) q
inductive G_ringlaw5_asked_h_C10_R where
  | x0 (v_x2024 : Bool) (v_b2025 : S_proc_Table) (v_w2026 : (List S_ringref5_Proc))
def G_ringlaw5_asked_h_C10_ex : G_ringlaw5_asked_h_C10_R → Ex
  | .x0 _ _ _ => .normal
def G_ringlaw5_asked_h_C10_st (v_r1587 : (Int × Int × S_proc_Table)) (v_z1942 : (List S_ringref5_Proc)) (v_d1571 : S_ringlaw5_Deed) (v_z1943 : (List Int)) : G_ringlaw5_asked_h_C10_R → PS
  | .x0 v_x2024 v_b2025 v_w2026 => ⟨[dd, dd, dd, dd, dd, dd, .d (.v (.bool v_x2024)), dd, dd, dd, dd, dd, dd, dd, dd, dd, dd, dd, dd, dd, dd, dd, dd, dd, dd, dd, dd, dd, dd, dd, dd, dd, dd, dd, dd, dd, dd, dd, dd, dd, dd, dd, dd, dd, dd, dd, dd, dd, dd, dd, dd, dd, dd, dd, dd, dd, dd, dd, dd, dd, dd, dd, dd, dd, dd, dd, dd, dd, dd, dd, dd, dd, dd, dd, dd, dd, dd, dd, dd, dd, dd, dd, dd, dd, dd, dd, dd, dd, dd, dd, dd, dd, dd, dd, dd, dd, dd, dd, dd, dd, dd, dd, dd, dd, dd, dd, dd, dd, dd, dd, dd, dd, dd, dd, dd, dd, dd, dd, dd, dd, dd, dd, dd, dd, dd, dd, dd, dd, dd, dd, dd, dd, dd, dd, dd, dd, dd, dd, dd, dd, dd, dd, dd, dd, dd, dd, dd, dd, dd, dd, dd, dd, dd, dd, dd, dd, dd, dd, dd, dd, dd, dd, dd, dd, dd, dd, dd, dd, dd, dd, dd, dd, dd, dd, dd, dd, dd, dd, dd, dd, dd, dd, dd, dd, dd], [.gh 0 (.ref 2 0), .gh 1 (.srf 3), .box ((cS_proc_Table v_b2025).map FV.d), .row 180 5 (v_w2026.map eS_ringref5_Proc)]⟩
def G_ringlaw5_asked_h_C10_hd (v_r1587 : (Int × Int × S_proc_Table)) (v_z1942 : (List S_ringref5_Proc)) (v_d1571 : S_ringlaw5_Deed) (v_z1943 : (List Int))  : PS := ⟨[.ref 2 0, .srf 3, dd, dd, dd, .ref 4 0, dd, dd, dd, dd, dd, dd, dd, dd, dd, dd, dd, dd, .srf 5, dd, dd, dd, dd, dd, dd, dd, dd, dd, dd, dd, dd, dd, dd, dd, dd, dd, dd, dd, dd, dd, dd, dd, dd, dd, dd, dd, dd, dd, dd, dd, dd, dd, dd, dd, dd, dd, dd, dd, dd, dd, dd, dd, dd, dd, dd, dd, dd, dd, dd, dd, dd, dd, dd, dd, dd, dd, dd, dd, dd, dd, dd, dd, dd, dd, dd, dd, dd, dd, dd, dd, dd, dd, dd, dd, dd, dd, dd, dd, dd, dd, dd, dd, dd, dd, dd, dd, dd, dd, dd, dd, dd, dd, dd, dd, dd, dd, dd, dd, dd, dd, dd, dd, dd, dd, dd, dd, dd, dd, dd, dd, dd, dd, dd, dd, dd, dd, dd, dd, dd, dd, dd, dd, dd, dd, dd, dd, dd, dd, dd, dd, dd, dd, dd, dd, dd, dd, dd, dd, dd, dd, dd, dd, dd, dd, dd, dd, dd, dd, dd, dd, dd, dd, dd, dd, dd, dd, dd, dd, dd, dd, dd, dd, dd, dd, dd], [.gh 0 (.ref 2 0), .gh 1 (.srf 3), .box ((cS_proc_Table v_r1587.2.2).map FV.d), .row 180 5 (v_z1942.map eS_ringref5_Proc), .box [.d (.v (.int .i64 v_d1571.fKind)), .d (.v (.int .i64 v_d1571.fP)), .d (.v (.int .i64 v_d1571.fN))], .row 3 1 (v_z1943.map (eI .i64))]⟩
def G_ringlaw5_asked_h_C10 (n : Nat) (v_r1587 : (Int × Int × S_proc_Table)) (v_z1942 : (List S_ringref5_Proc)) (v_d1571 : S_ringlaw5_Deed) (v_z1943 : (List Int)) : Option G_ringlaw5_asked_h_C10_R :=
  (G_proc_Table_All_h n v_r1587.2.2).bind fun (v_r2016 : ((List Int) × S_proc_Table)) =>
  (G_ringref5_Procs_Living_h n v_z1942 (fun (y0 : S_ringref5_Proc) => G_ringlaw5_asked_1 n y0)).bind fun (v_r2017 : ((List Int) × (List S_ringref5_Proc))) =>
  (G_slices_Equal_int_int n v_r2016.1 v_r2017.1).bind fun (v_r2018 : (Bool)) =>
  if v_r2018 = true then
   (G_proc_Table_Of_h n v_r2016.2 v_d1571.fN).bind fun (v_r2019 : ((List Int) × S_proc_Table)) =>
   (G_ringref5_Procs_Living_h n v_r2017.2 (fun (y0 : S_ringref5_Proc) => G_ringlaw5_asked_2 n y0 v_d1571)).bind fun (v_r2020 : ((List Int) × (List S_ringref5_Proc))) =>
   (G_slices_Equal_int_int n v_r2019.1 v_r2020.1).bind fun (v_r2021 : (Bool)) =>
   if v_r2021 = true then
    (G_proc_Table_Kids_h n v_r2019.2 v_d1571.fN).bind fun (v_r2022 : ((List Int) × S_proc_Table)) =>
    (G_slices_Equal_int_int n v_r2022.1 v_z1943).bind fun (v_r2023 : (Bool)) =>
    some (.x0 v_r2023 v_r2022.2 v_r2020.2)
   else
    some (.x0 false v_r2019.2 v_r2020.2)
  else
   some (.x0 false v_r2016.2 v_r2017.2)
theorem G_ringlaw5_asked_h_C10_ok {Fi : Ex → PS → Prop} (hF : KC 185 Fi) (ks : List Fr) (n : Nat) (v_r1587 : (Int × Int × S_proc_Table)) (v_z1942 : (List S_ringref5_Proc)) (v_d1571 : S_ringlaw5_Deed) (v_z1943 : (List Int))  (o : G_ringlaw5_asked_h_C10_R) (h : G_ringlaw5_asked_h_C10 n v_r1587 v_z1942 v_d1571 v_z1943 = some o) (q : RunE Try.prog 185 Fi ks (G_ringlaw5_asked_h_C10_ex o) (G_ringlaw5_asked_h_C10_st v_r1587 v_z1942 v_d1571 v_z1943 o)) : RunE Try.prog 185 Fi (.s (cL (cR (cR (cR (cR (cR (cR (cR (cR (bodyOf Try.f113)))))))))) :: ks) .normal (G_ringlaw5_asked_h_C10_hd v_r1587 v_z1942 v_d1571 v_z1943) := by
  unfold G_ringlaw5_asked_h_C10 at h
  obtain ⟨v_r2016, h1778, h⟩ := bind_some h
  obtain ⟨v_r2017, h1779, h⟩ := bind_some h
  obtain ⟨v_r2018, h1780, h⟩ := bind_some h
  by_cases h1781 : v_r2018 = true
  · rw [if_pos h1781] at h
    obtain ⟨v_r2019, h1782, h⟩ := bind_some h
    obtain ⟨v_r2020, h1783, h⟩ := bind_some h
    obtain ⟨v_r2021, h1784, h⟩ := bind_some h
    by_cases h1785 : v_r2021 = true
    · rw [if_pos h1785] at h
      obtain ⟨v_r2022, h1786, h⟩ := bind_some h
      obtain ⟨v_r2023, h1787, h⟩ := bind_some h
      cases h
      exact pkk_sound TTok mix hF 2 (hs := [.fb 4, .h [2] [] [.box ((cS_proc_Table v_r2016.2).map FV.d)] (.d (.sl (v_r2016.1.map (eI .i64)))), .h [3] [] [.row 180 5 (v_r2017.2.map eS_ringref5_Proc)] (.d (.sl (v_r2017.1.map (eI .i64)))), .r (eB v_r2018), .t true, .c, .c, .c, .c, .h [2] [] [.box ((cS_proc_Table v_r2019.2).map FV.d)] (.d (.sl (v_r2019.1.map (eI .i64)))), .c, .c, .c, .h [3] [] [.row 180 5 (v_r2020.2.map eS_ringref5_Proc)] (.d (.sl (v_r2020.1.map (eI .i64)))), .c, .r (eB v_r2021), .t true, .c, .c, .c, .c, .h [2] [] [.box ((cS_proc_Table v_r2022.2).map FV.d)] (.d (.sl (v_r2022.1.map (eI .i64)))), .c, .c, .c, .r (eB v_r2023)]) (ts := []) (s := [0, 1, 2, 3]) (l := [6]) (by kernel_rfl) (by kernel_rfl) (.cons (G_proc_Table_All_h_ok n v_r1587.2.2 _ h1778) (.cons (G_ringref5_Procs_Living_h_ok n v_z1942 (fun (y0 : S_ringref5_Proc) => G_ringlaw5_asked_1 n y0) 160 [] (fun y0 r h => G_ringlaw5_asked_1_ok n y0 r h) _ h1779) (.cons (G_slices_Equal_int_int_ok n v_r2016.1 v_r2017.1 _ h1780) (.cons h1781 (.cons (G_proc_Table_Of_h_ok n v_r2016.2 v_d1571.fN _ h1782) (.cons (G_ringref5_Procs_Living_h_ok n v_r2017.2 (fun (y0 : S_ringref5_Proc) => G_ringlaw5_asked_2 n y0 v_d1571) 161 [.iptr [.v (.int .i64 v_d1571.fKind), .v (.int .i64 v_d1571.fP), .v (.int .i64 v_d1571.fN)] 0] (fun y0 r h => G_ringlaw5_asked_2_ok n y0 v_d1571 r h) _ h1783) (.cons (G_slices_Equal_int_int_ok n v_r2019.1 v_r2020.1 _ h1784) (.cons h1785 (.cons (G_proc_Table_Kids_h_ok n v_r2019.2 v_d1571.fN _ h1786) (.cons (G_slices_Equal_int_int_ok n v_r2022.1 v_z1943 _ h1787) .nil)))))))))) q
    · rw [if_neg h1785] at h
      cases h
      exact pkk_sound TTok mix hF 2 (hs := [.fb 4, .h [2] [] [.box ((cS_proc_Table v_r2016.2).map FV.d)] (.d (.sl (v_r2016.1.map (eI .i64)))), .h [3] [] [.row 180 5 (v_r2017.2.map eS_ringref5_Proc)] (.d (.sl (v_r2017.1.map (eI .i64)))), .r (eB v_r2018), .t true, .c, .c, .c, .c, .h [2] [] [.box ((cS_proc_Table v_r2019.2).map FV.d)] (.d (.sl (v_r2019.1.map (eI .i64)))), .c, .c, .c, .h [3] [] [.row 180 5 (v_r2020.2.map eS_ringref5_Proc)] (.d (.sl (v_r2020.1.map (eI .i64)))), .c, .r (eB v_r2021), .t false, .c, .c, .c, .c, .c]) (ts := []) (s := [0, 1, 2, 3]) (l := [6]) (by kernel_rfl) (by kernel_rfl) (.cons (G_proc_Table_All_h_ok n v_r1587.2.2 _ h1778) (.cons (G_ringref5_Procs_Living_h_ok n v_z1942 (fun (y0 : S_ringref5_Proc) => G_ringlaw5_asked_1 n y0) 160 [] (fun y0 r h => G_ringlaw5_asked_1_ok n y0 r h) _ h1779) (.cons (G_slices_Equal_int_int_ok n v_r2016.1 v_r2017.1 _ h1780) (.cons h1781 (.cons (G_proc_Table_Of_h_ok n v_r2016.2 v_d1571.fN _ h1782) (.cons (G_ringref5_Procs_Living_h_ok n v_r2017.2 (fun (y0 : S_ringref5_Proc) => G_ringlaw5_asked_2 n y0 v_d1571) 161 [.iptr [.v (.int .i64 v_d1571.fKind), .v (.int .i64 v_d1571.fP), .v (.int .i64 v_d1571.fN)] 0] (fun y0 r h => G_ringlaw5_asked_2_ok n y0 v_d1571 r h) _ h1783) (.cons (G_slices_Equal_int_int_ok n v_r2019.1 v_r2020.1 _ h1784) (.cons (vf h1785) .nil)))))))) q
  · rw [if_neg h1781] at h
    cases h
    exact pkk_sound TTok mix hF 2 (hs := [.fb 4, .h [2] [] [.box ((cS_proc_Table v_r2016.2).map FV.d)] (.d (.sl (v_r2016.1.map (eI .i64)))), .h [3] [] [.row 180 5 (v_r2017.2.map eS_ringref5_Proc)] (.d (.sl (v_r2017.1.map (eI .i64)))), .r (eB v_r2018), .t false, .c, .c, .c, .c, .c, .c, .c, .c, .c, .c, .c, .c, .c]) (ts := []) (s := [0, 1, 2, 3]) (l := [6]) (by kernel_rfl) (by kernel_rfl) (.cons (G_proc_Table_All_h_ok n v_r1587.2.2 _ h1778) (.cons (G_ringref5_Procs_Living_h_ok n v_z1942 (fun (y0 : S_ringref5_Proc) => G_ringlaw5_asked_1 n y0) 160 [] (fun y0 r h => G_ringlaw5_asked_1_ok n y0 r h) _ h1779) (.cons (G_slices_Equal_int_int_ok n v_r2016.1 v_r2017.1 _ h1780) (.cons (vf h1781) .nil)))) q
/- ringhall/ringlaw5.asked -/
def G_ringlaw5_asked_h (n : Nat) (v_t1569 : S_proc_Table) (v_r1570 : (List S_ringref5_Proc)) (v_d1571 : S_ringlaw5_Deed) : Option (Bool × S_proc_Table × (List S_ringref5_Proc)) :=
  (G_proc_Table_State_h n v_t1569 v_d1571.fP).bind fun (v_r1576 : (Int × Int × S_proc_Table)) =>
  (G_proc_Table_Parent_h n v_r1576.2.2 v_d1571.fP).bind fun (v_r1582 : (Int × Int × S_proc_Table)) =>
  (G_proc_Table_Group_h n v_r1582.2.2 v_d1571.fP).bind fun (v_r1587 : (Int × Int × S_proc_Table)) =>
  (G_ringref5_Procs_Find n v_r1570 v_d1571.fP).bind fun (v_r1588 : (Int)) =>
  (G_ringlaw5_asked_h_C7 n v_r1576 v_r1582 v_r1587 v_r1588 v_r1570 v_d1571).bind fun v_o1917 => match v_o1917 with
  | .x0 v_z1918 v_z1919 =>
    some (v_z1918, v_r1587.2.2, v_z1919)
  | .x1 v_z1920 =>
    (G_ringlaw5_asked_h_L9 n v_z1920 v_r1587 v_d1571 n 0 v_z1920 ([] : List Int)).bind fun v_o1941 => match v_o1941 with
    | .x0 v_z1942 v_z1943 =>
      (G_ringlaw5_asked_h_C10 n v_r1587 v_z1942 v_d1571 v_z1943).bind fun v_o2033 => match v_o2033 with
      | .x0 v_z2034 v_z2035 v_z2036 =>
        some (v_z2034, v_z2035, v_z2036)
theorem G_ringlaw5_asked_h_ok (n : Nat) (v_t1569 : S_proc_Table) (v_r1570 : (List S_ringref5_Proc)) (v_d1571 : S_ringlaw5_Deed) (r : Bool × S_proc_Table × (List S_ringref5_Proc)) (h : G_ringlaw5_asked_h n v_t1569 v_r1570 v_d1571 = some r) : RetH Try.prog 113 [.ref 0 0, .srf 1, .d (eS_ringlaw5_Deed v_d1571)] [.box ((cS_proc_Table v_t1569).map FV.d), .row 180 5 (v_r1570.map eS_ringref5_Proc)] (.d (eB r.1)) [.box ((cS_proc_Table r.2.1).map FV.d), .row 180 5 (r.2.2.map eS_ringref5_Proc)] := by
  refine retH_run (n := 185) (fn := Try.f113) (c := bodyOf Try.f113) (by kernel_rfl) (by kernel_rfl) (by kernel_rfl) (by kernel_rfl) ?_
  have hF : KC 185 (FinH Try.prog Try.f113 [.box ((cS_proc_Table v_t1569).map FV.d), .row 180 5 (v_r1570.map eS_ringref5_Proc)] (.d (eB r.1)) [.box ((cS_proc_Table r.2.1).map FV.d), .row 180 5 (r.2.2.map eS_ringref5_Proc)]) := FinH.kc' (by kernel_rfl)
  unfold G_ringlaw5_asked_h at h
  obtain ⟨v_r1576, h1457, h⟩ := bind_some h
  obtain ⟨v_r1582, h1465, h⟩ := bind_some h
  obtain ⟨v_r1587, h1471, h⟩ := bind_some h
  obtain ⟨v_r1588, h1472, h⟩ := bind_some h
  obtain ⟨v_o1917, h1697, h⟩ := bind_some h
  refine pkk_sound TTok mix hF 11 (hs := [.c, .h [0] [] [.box ((cS_proc_Table v_r1576.2.2).map FV.d)] (.tup [.d (.v (.int .i64 v_r1576.1)), .d (.v (.int .i64 v_r1576.2.1))]), .c, .h [0] [] [.box ((cS_proc_Table v_r1582.2.2).map FV.d)] (.tup [.d (.v (.int .i64 v_r1582.1)), .d (.v (.int .i64 v_r1582.2.1))]), .c, .h [0] [] [.box ((cS_proc_Table v_r1587.2.2).map FV.d)] (.tup [.d (.v (.int .i64 v_r1587.1)), .d (.v (.int .i64 v_r1587.2.1))]), .c, .c, .r ((eI .i64) v_r1588)]) (ts := []) (s := [2, 3, 0, 1, 4]) (l := [0, 1, 5, 7, 8, 9, 10, 11, 12, 13]) (by kernel_rfl) (by kernel_rfl) (.cons (G_proc_Table_State_h_ok n v_t1569 v_d1571.fP _ h1457) (.cons (G_proc_Table_Parent_h_ok n v_r1576.2.2 v_d1571.fP _ h1465) (.cons (G_proc_Table_Group_h_ok n v_r1582.2.2 v_d1571.fP _ h1471) (.cons (G_ringref5_Procs_Find_ok n v_r1570 v_d1571.fP _ h1472) .nil)))) (G_ringlaw5_asked_h_C7_ok hF (.s (cR (cR (cR (cR (cR (cR (bodyOf Try.f113))))))) :: []) n v_r1576 v_r1582 v_r1587 v_r1588 v_r1570 v_d1571 _ h1697 ?_)
  cases v_o1917 with
  | x0 v_z1918 v_z1919 =>
    try dsimp only at h
    obtain rfl := Option.some.inj h
    exact pendH_sound TTok mix 1 (hs := []) [2, 3] (by kernel_rfl) (by kernel_rfl) (by kernel_rfl) .nil
  | x1 v_z1920 =>
    try dsimp only at h
    obtain ⟨v_o1941, h1714, h⟩ := bind_some h
    refine pkk_sound TTok mix hF 7 (hs := [.u (.d (.v (.int .i64 (v_z1920.length : Int)))), .n n]) (ts := [(18, 3, 1)]) (s := [0, 1, 2, 3, 4, 17]) (l := [0, 1, 5, 18, 140, 141, 142]) (by kernel_rfl) (by kernel_rfl) (.cons (len_ob (f := eS_ringref5_Proc) (l := v_z1920)) .nil) (G_ringlaw5_asked_h_L9_ok hF (.b 1 :: .s (cR (cR (cR (cR (cR (cR (cR (cR (bodyOf Try.f113))))))))) :: []) n v_z1920 v_r1587 v_d1571 n 0 v_z1920 ([] : List Int) _ h1714 ?_)
    cases v_o1941 with
    | x0 v_z1942 v_z1943 =>
      try dsimp only at h
      obtain ⟨v_o2033, h1788, h⟩ := bind_some h
      refine pkk_sound TTok mix hF 2 (hs := []) (ts := []) (s := [0, 1, 2, 3, 4, 5]) (l := [0, 1, 5, 18]) (by kernel_rfl) (by kernel_rfl) .nil (G_ringlaw5_asked_h_C10_ok hF (.s (cR (cR (cR (cR (cR (cR (cR (cR (cR (bodyOf Try.f113)))))))))) :: []) n v_r1587 v_z1942 v_d1571 v_z1943 _ h1788 ?_)
      cases v_o2033 with
      | x0 v_z2034 v_z2035 v_z2036 =>
        try dsimp only at h
        obtain rfl := Option.some.inj h
        exact pendH_sound TTok mix 1 (hs := []) [2, 3] (by kernel_rfl) (by kernel_rfl) (by kernel_rfl) .nil
inductive G_ringlaw5_ProcPlays_C11_R where
  | x0 (v_e3486 : Int) (v_m3487 : Int) (v_w3488 : (List S_ringref5_Proc))
def G_ringlaw5_ProcPlays_C11_ex : G_ringlaw5_ProcPlays_C11_R → Ex
  | .x0 _ _ _ => .normal
def G_ringlaw5_ProcPlays_C11_st (v_r3125 : (Int)) (v_r3483 : (Int × Int × S_proc_Table)) (v_l1 : (List S_ringlaw5_Deed)) (v_x2593 : Int) (v_w2595 : (List S_ringref5_Proc)) (v_y3124 : S_ringlaw5_Deed) : G_ringlaw5_ProcPlays_C11_R → PS
  | .x0 v_e3486 v_m3487 v_w3488 => ⟨[dd, dd, dd, .ref 0 0, .srf 1, dd, .ref 2 0, .d (.v (.int .i64 v_e3486)), dd, .d (.v (.int .i64 v_r3483.1)), .d (.v (.int .i64 v_r3483.2.1)), .d (.v (.int .i64 v_m3487)), dd, dd, dd, dd, dd, dd, dd, dd, dd, dd, dd, dd, .d (.sl (v_l1.map eS_ringlaw5_Deed)), .d (.v (.int .i64 (v_l1.length : Int))), .d (.v (.int .i64 v_x2593)), dd, dd, dd, dd, dd, dd, dd, dd, dd, dd, dd, dd, dd, dd, dd, dd, dd, dd, dd, dd, dd, dd, dd, dd, dd, dd, dd, dd, dd, dd, dd, dd, dd, dd, dd, dd, dd, dd, dd, dd, dd, dd, dd, dd, dd, dd, dd, dd, dd, dd, dd, dd, dd, dd, dd, dd, dd, dd, dd, dd, dd, dd, dd, dd, dd, dd, dd, dd, dd, dd, dd, dd, dd, dd, dd, dd, dd, dd, dd, dd, dd, dd, dd, dd, dd, dd, dd, dd, dd, dd, dd, dd, dd, dd, dd, dd, dd, dd, dd, dd, dd, dd, dd, dd, dd, dd, dd, dd, dd, dd, dd, dd, dd, dd, dd, dd, dd, dd, dd, dd, dd, dd, dd, dd, dd, dd, dd, dd, dd, dd, dd, dd, dd, dd, dd, dd, dd, dd, dd, dd, dd, dd, dd, dd, dd, dd, dd, dd, dd, dd, dd, dd, dd, dd, dd, dd, dd, dd, dd, dd, dd, dd, dd, dd, dd, dd, dd, dd], [.box ((cS_proc_Table v_r3483.2.2).map FV.d), .row 180 5 (v_w3488.map eS_ringref5_Proc), .box [.d (.v (.int .i64 v_y3124.fKind)), .d (.v (.int .i64 v_y3124.fP)), .d (.v (.int .i64 v_y3124.fN))]]⟩
def G_ringlaw5_ProcPlays_C11_hd (v_r3125 : (Int)) (v_r3483 : (Int × Int × S_proc_Table)) (v_l1 : (List S_ringlaw5_Deed)) (v_x2593 : Int) (v_w2595 : (List S_ringref5_Proc)) (v_y3124 : S_ringlaw5_Deed)  : PS := ⟨[dd, dd, dd, .ref 0 0, .srf 1, dd, .ref 2 0, .d (.v (.int .i64 v_r3125)), dd, .d (.v (.int .i64 v_r3483.1)), .d (.v (.int .i64 v_r3483.2.1)), .d (.v (.int .i64 0)), dd, dd, dd, dd, dd, dd, dd, dd, dd, dd, dd, dd, .d (.sl (v_l1.map eS_ringlaw5_Deed)), .d (.v (.int .i64 (v_l1.length : Int))), .d (.v (.int .i64 v_x2593)), dd, dd, dd, dd, dd, dd, dd, dd, dd, dd, dd, dd, dd, dd, dd, dd, dd, dd, dd, dd, .d (.v (.bool (v_r3125 == 0))), dd, dd, dd, dd, dd, dd, dd, dd, dd, dd, dd, dd, dd, dd, dd, dd, dd, dd, dd, dd, dd, dd, dd, dd, dd, dd, dd, dd, dd, dd, dd, dd, dd, dd, dd, dd, dd, dd, dd, dd, dd, dd, dd, dd, dd, dd, dd, dd, dd, dd, dd, dd, dd, dd, dd, dd, dd, dd, dd, dd, dd, dd, dd, dd, dd, dd, dd, dd, dd, dd, dd, dd, dd, dd, dd, dd, dd, dd, dd, dd, dd, dd, dd, dd, dd, dd, dd, dd, dd, dd, dd, dd, dd, dd, dd, dd, dd, dd, dd, dd, dd, dd, dd, dd, dd, dd, dd, dd, dd, dd, dd, dd, dd, dd, dd, dd, dd, dd, dd, dd, dd, dd, dd, dd, dd, dd, dd, dd, dd, dd, dd, dd, dd, dd, dd, dd, dd, dd, dd, dd, dd, dd, dd, dd, dd, dd, dd], [.box ((cS_proc_Table v_r3483.2.2).map FV.d), .row 180 5 (v_w2595.map eS_ringref5_Proc), .box [.d (.v (.int .i64 v_y3124.fKind)), .d (.v (.int .i64 v_y3124.fP)), .d (.v (.int .i64 v_y3124.fN))]]⟩
def G_ringlaw5_ProcPlays_C11 (n : Nat) (v_r3125 : (Int)) (v_r3483 : (Int × Int × S_proc_Table)) (v_l1 : (List S_ringlaw5_Deed)) (v_x2593 : Int) (v_w2595 : (List S_ringref5_Proc)) (v_y3124 : S_ringlaw5_Deed) : Option G_ringlaw5_ProcPlays_C11_R :=
  if v_r3125 = 0 then
   (G_ringref5_Procs_Forked_h n v_w2595 v_y3124.fP).bind fun (v_r3485 : ((List S_ringref5_Proc) × Int)) =>
   if v_r3485.2 = 0 then
    some (.x0 6 v_r3485.2 v_r3485.1)
   else
    some (.x0 v_r3125 v_r3485.2 v_r3485.1)
  else
   some (.x0 v_r3125 0 v_w2595)
theorem G_ringlaw5_ProcPlays_C11_ok {Fi : Ex → PS → Prop} (hF : KC 195 Fi) (ks : List Fr) (n : Nat) (v_r3125 : (Int)) (v_r3483 : (Int × Int × S_proc_Table)) (v_l1 : (List S_ringlaw5_Deed)) (v_x2593 : Int) (v_w2595 : (List S_ringref5_Proc)) (v_y3124 : S_ringlaw5_Deed)  (o : G_ringlaw5_ProcPlays_C11_R) (h : G_ringlaw5_ProcPlays_C11 n v_r3125 v_r3483 v_l1 v_x2593 v_w2595 v_y3124 = some o) (q : RunE Try.prog 195 Fi ks (G_ringlaw5_ProcPlays_C11_ex o) (G_ringlaw5_ProcPlays_C11_st v_r3125 v_r3483 v_l1 v_x2593 v_w2595 v_y3124 o)) : RunE Try.prog 195 Fi (.s (cR (cL (cR (cR (cT (cR (cB (cR (cL (cR (cR (cR (cB (cL (cR (cR (cP (cB (cR (cL (cR (cR (cR (cR (bodyOf Try.f11))))))))))))))))))))))))) :: ks) .normal (G_ringlaw5_ProcPlays_C11_hd v_r3125 v_r3483 v_l1 v_x2593 v_w2595 v_y3124) := by
  unfold G_ringlaw5_ProcPlays_C11 at h
  by_cases h2791 : v_r3125 = 0
  · rw [if_pos h2791] at h
    obtain ⟨v_r3485, h2792, h⟩ := bind_some h
    by_cases h2793 : v_r3485.2 = 0
    · rw [if_pos h2793] at h
      cases h
      exact pkk_sound TTok mix hF 7 (hs := [.t true, .c, .h [1] [] [.none, .row 180 5 (v_r3485.1.map eS_ringref5_Proc)] (.tup [.srf 1, .d (.v (.int .i64 v_r3485.2))]), .t true]) (ts := []) (s := [0, 12, 2]) (l := [3, 4, 6, 7, 9, 10, 11, 24, 25, 26]) (by kernel_rfl) (by kernel_rfl) (.cons (bt h2791) (.cons (G_ringref5_Procs_Forked_h_ok n v_w2595 v_y3124.fP _ h2792) (.cons (bt h2793) .nil))) q
    · rw [if_neg h2793] at h
      cases h
      exact pkk_sound TTok mix hF 7 (hs := [.t true, .c, .h [1] [] [.none, .row 180 5 (v_r3485.1.map eS_ringref5_Proc)] (.tup [.srf 1, .d (.v (.int .i64 v_r3485.2))]), .t false]) (ts := []) (s := [0, 12, 2]) (l := [3, 4, 6, 7, 9, 10, 11, 24, 25, 26]) (by kernel_rfl) (by kernel_rfl) (.cons (bt h2791) (.cons (G_ringref5_Procs_Forked_h_ok n v_w2595 v_y3124.fP _ h2792) (.cons (bf h2793) .nil))) q
  · rw [if_neg h2791] at h
    cases h
    exact pkk_sound TTok mix hF 2 (hs := [.t false]) (ts := []) (s := [0, 1, 2]) (l := [3, 4, 6, 7, 9, 10, 11, 24, 25, 26]) (by kernel_rfl) (by kernel_rfl) (.cons (bf h2791) .nil) q
inductive G_ringlaw5_ProcPlays_C12_R where
  | x0 (v_e3507 : Int) (v_m3508 : Int) (v_w3509 : (List S_ringref5_Proc))
def G_ringlaw5_ProcPlays_C12_ex : G_ringlaw5_ProcPlays_C12_R → Ex
  | .x0 _ _ _ => .normal
def G_ringlaw5_ProcPlays_C12_st (v_r3125 : (Int)) (v_r3505 : (Int × Int × S_proc_Table)) (v_l1 : (List S_ringlaw5_Deed)) (v_x2593 : Int) (v_y3124 : S_ringlaw5_Deed) (v_w2595 : (List S_ringref5_Proc)) : G_ringlaw5_ProcPlays_C12_R → PS
  | .x0 v_e3507 v_m3508 v_w3509 => ⟨[dd, dd, dd, .ref 0 0, .srf 1, dd, .ref 2 0, .d (.v (.int .i64 v_e3507)), dd, dd, dd, dd, .d (.v (.int .i64 v_r3505.1)), .d (.v (.int .i64 v_r3505.2.1)), .d (.v (.int .i64 v_m3508)), dd, dd, dd, dd, dd, dd, dd, dd, dd, .d (.sl (v_l1.map eS_ringlaw5_Deed)), .d (.v (.int .i64 (v_l1.length : Int))), .d (.v (.int .i64 v_x2593)), dd, dd, dd, dd, dd, dd, dd, dd, dd, dd, dd, dd, dd, dd, dd, dd, dd, dd, dd, dd, dd, dd, dd, dd, dd, dd, dd, dd, dd, dd, dd, dd, dd, dd, dd, dd, dd, dd, dd, dd, dd, dd, dd, dd, dd, dd, dd, dd, dd, dd, dd, dd, dd, dd, dd, dd, dd, dd, dd, dd, dd, dd, dd, dd, dd, dd, dd, dd, dd, dd, dd, dd, dd, dd, dd, dd, dd, dd, dd, dd, dd, dd, dd, dd, dd, dd, dd, dd, dd, dd, dd, dd, dd, dd, dd, dd, dd, dd, dd, dd, dd, dd, dd, dd, dd, dd, dd, dd, dd, dd, dd, dd, dd, dd, dd, dd, dd, dd, dd, dd, dd, dd, dd, dd, dd, dd, dd, dd, dd, dd, dd, dd, dd, dd, dd, dd, dd, dd, dd, dd, dd, dd, dd, dd, dd, dd, dd, dd, dd, dd, dd, dd, dd, dd, dd, dd, dd, dd, dd, dd, dd, dd, dd, dd, dd, dd, dd, dd], [.box ((cS_proc_Table v_r3505.2.2).map FV.d), .row 180 5 (v_w3509.map eS_ringref5_Proc), .box [.d (.v (.int .i64 v_y3124.fKind)), .d (.v (.int .i64 v_y3124.fP)), .d (.v (.int .i64 v_y3124.fN))]]⟩
def G_ringlaw5_ProcPlays_C12_hd (v_r3125 : (Int)) (v_r3505 : (Int × Int × S_proc_Table)) (v_l1 : (List S_ringlaw5_Deed)) (v_x2593 : Int) (v_y3124 : S_ringlaw5_Deed) (v_w2595 : (List S_ringref5_Proc))  : PS := ⟨[dd, dd, dd, .ref 0 0, .srf 1, dd, .ref 2 0, .d (.v (.int .i64 v_r3125)), dd, dd, dd, dd, .d (.v (.int .i64 v_r3505.1)), .d (.v (.int .i64 v_r3505.2.1)), .d (.v (.int .i64 0)), dd, dd, dd, dd, dd, dd, dd, dd, dd, .d (.sl (v_l1.map eS_ringlaw5_Deed)), .d (.v (.int .i64 (v_l1.length : Int))), .d (.v (.int .i64 v_x2593)), dd, dd, dd, dd, dd, dd, dd, dd, dd, dd, dd, dd, dd, dd, dd, dd, dd, dd, dd, dd, dd, dd, dd, dd, dd, dd, dd, dd, dd, dd, dd, dd, dd, dd, dd, dd, dd, dd, dd, dd, dd, dd, dd, dd, dd, dd, dd, dd, dd, dd, dd, dd, dd, dd, dd, .d (.v (.bool (v_y3124.fP == 1))), dd, dd, dd, dd, dd, dd, dd, dd, dd, dd, dd, dd, dd, dd, dd, dd, dd, dd, dd, dd, dd, dd, dd, dd, dd, dd, dd, dd, dd, dd, dd, dd, dd, dd, dd, dd, dd, dd, dd, dd, dd, dd, dd, dd, dd, dd, dd, dd, dd, dd, dd, dd, dd, dd, dd, dd, dd, dd, dd, dd, dd, dd, dd, dd, dd, dd, dd, dd, dd, dd, dd, dd, dd, dd, dd, dd, dd, dd, dd, dd, dd, dd, dd, dd, dd, dd, dd, dd, dd, dd, dd, dd, dd, dd, dd, dd, dd, dd, dd, dd, dd, dd, dd, dd, dd, dd, dd, dd, dd, dd, dd, dd], [.box ((cS_proc_Table v_r3505.2.2).map FV.d), .row 180 5 (v_w2595.map eS_ringref5_Proc), .box [.d (.v (.int .i64 v_y3124.fKind)), .d (.v (.int .i64 v_y3124.fP)), .d (.v (.int .i64 v_y3124.fN))]]⟩
def G_ringlaw5_ProcPlays_C12 (n : Nat) (v_r3125 : (Int)) (v_r3505 : (Int × Int × S_proc_Table)) (v_l1 : (List S_ringlaw5_Deed)) (v_x2593 : Int) (v_y3124 : S_ringlaw5_Deed) (v_w2595 : (List S_ringref5_Proc)) : Option G_ringlaw5_ProcPlays_C12_R :=
  if v_y3124.fP = 1 then
   some (.x0 7 0 v_w2595)
  else
   if v_r3125 = 0 then
    (G_ringref5_Procs_Exited_h n v_w2595 v_y3124.fP v_y3124.fN).bind fun (v_r3510 : ((List S_ringref5_Proc) × Int)) =>
    some (.x0 v_r3125 v_r3510.2 v_r3510.1)
   else
    some (.x0 v_r3125 0 v_w2595)
theorem G_ringlaw5_ProcPlays_C12_ok {Fi : Ex → PS → Prop} (hF : KC 195 Fi) (ks : List Fr) (n : Nat) (v_r3125 : (Int)) (v_r3505 : (Int × Int × S_proc_Table)) (v_l1 : (List S_ringlaw5_Deed)) (v_x2593 : Int) (v_y3124 : S_ringlaw5_Deed) (v_w2595 : (List S_ringref5_Proc))  (o : G_ringlaw5_ProcPlays_C12_R) (h : G_ringlaw5_ProcPlays_C12 n v_r3125 v_r3505 v_l1 v_x2593 v_y3124 v_w2595 = some o) (q : RunE Try.prog 195 Fi ks (G_ringlaw5_ProcPlays_C12_ex o) (G_ringlaw5_ProcPlays_C12_st v_r3125 v_r3505 v_l1 v_x2593 v_y3124 v_w2595 o)) : RunE Try.prog 195 Fi (.s (cR (cL (cR (cR (cT (cR (cF (cR (cB (cR (cL (cR (cR (cR (cB (cL (cR (cR (cP (cB (cR (cL (cR (cR (cR (cR (bodyOf Try.f11))))))))))))))))))))))))))) :: ks) .normal (G_ringlaw5_ProcPlays_C12_hd v_r3125 v_r3505 v_l1 v_x2593 v_y3124 v_w2595) := by
  unfold G_ringlaw5_ProcPlays_C12 at h
  by_cases h2802 : v_y3124.fP = 1
  · rw [if_pos h2802] at h
    cases h
    exact pkk_sound TTok mix hF 2 (hs := [.t true]) (ts := []) (s := [0, 1, 2]) (l := [3, 4, 6, 7, 12, 13, 14, 24, 25, 26]) (by kernel_rfl) (by kernel_rfl) (.cons (bt h2802) .nil) q
  · rw [if_neg h2802] at h
    by_cases h2803 : v_r3125 = 0
    · rw [if_pos h2803] at h
      obtain ⟨v_r3510, h2804, h⟩ := bind_some h
      cases h
      exact pkk_sound TTok mix hF 6 (hs := [.t false, .t true, .fz 1, .c, .c, .h [] [] [.row 180 5 (v_r3510.1.map eS_ringref5_Proc)] (.tup [.srf 0, .d (.v (.int .i64 v_r3510.2))])]) (ts := []) (s := [0, 24, 2]) (l := [3, 4, 6, 7, 12, 13, 14, 24, 25, 26]) (by kernel_rfl) (by kernel_rfl) (.cons (bf h2802) (.cons (bt h2803) (.cons (G_ringref5_Procs_Exited_h_ok n v_w2595 v_y3124.fP v_y3124.fN _ h2804) .nil))) q
    · rw [if_neg h2803] at h
      cases h
      exact pkk_sound TTok mix hF 5 (hs := [.t false, .t false]) (ts := []) (s := [0, 1, 2]) (l := [3, 4, 6, 7, 12, 13, 14, 24, 25, 26]) (by kernel_rfl) (by kernel_rfl) (.cons (bf h2802) (.cons (bf h2803) .nil)) q
inductive G_ringlaw5_ProcPlays_C13_R where
  | x0 (v_ok3538 : Bool) (v_w3539 : (List S_ringref5_Proc))
def G_ringlaw5_ProcPlays_C13_ex : G_ringlaw5_ProcPlays_C13_R → Ex
  | .x0 _ _ => .normal
def G_ringlaw5_ProcPlays_C13_st (v_r3537 : ((List S_ringref5_Proc) × Int × Int × Int)) (v_r3535 : (Int × Int × Int × S_proc_Table)) (v_l1 : (List S_ringlaw5_Deed)) (v_x2593 : Int) (v_y3124 : S_ringlaw5_Deed) : G_ringlaw5_ProcPlays_C13_R → PS
  | .x0 v_ok3538 v_w3539 => ⟨[dd, dd, dd, .ref 0 0, .srf 1, dd, .ref 2 0, dd, .d (.v (.bool v_ok3538)), dd, dd, dd, dd, dd, dd, dd, dd, dd, dd, dd, dd, dd, dd, dd, .d (.sl (v_l1.map eS_ringlaw5_Deed)), .d (.v (.int .i64 (v_l1.length : Int))), .d (.v (.int .i64 v_x2593)), dd, dd, dd, dd, dd, dd, dd, dd, dd, dd, dd, dd, dd, dd, dd, dd, dd, dd, dd, dd, dd, dd, dd, dd, dd, dd, dd, dd, dd, dd, dd, dd, dd, dd, dd, dd, dd, dd, dd, dd, dd, dd, dd, dd, dd, dd, dd, dd, dd, dd, dd, dd, dd, dd, dd, dd, dd, dd, dd, dd, dd, dd, dd, dd, dd, dd, dd, dd, dd, dd, dd, dd, dd, dd, dd, dd, dd, dd, dd, dd, dd, dd, dd, dd, dd, dd, dd, dd, dd, dd, dd, dd, dd, dd, dd, dd, dd, dd, dd, dd, dd, dd, dd, dd, dd, dd, dd, dd, dd, dd, dd, dd, dd, dd, dd, dd, dd, dd, dd, dd, dd, dd, dd, dd, dd, dd, dd, dd, dd, dd, dd, dd, dd, dd, dd, dd, dd, dd, dd, dd, dd, dd, dd, dd, dd, dd, dd, dd, dd, dd, dd, dd, dd, dd, dd, dd, dd, dd, dd, dd, dd, dd, dd, dd, dd, dd, dd, dd], [.box ((cS_proc_Table v_r3535.2.2.2).map FV.d), .row 180 5 (v_w3539.map eS_ringref5_Proc), .box [.d (.v (.int .i64 v_y3124.fKind)), .d (.v (.int .i64 v_y3124.fP)), .d (.v (.int .i64 v_y3124.fN))]]⟩
def G_ringlaw5_ProcPlays_C13_hd (v_r3537 : ((List S_ringref5_Proc) × Int × Int × Int)) (v_r3535 : (Int × Int × Int × S_proc_Table)) (v_l1 : (List S_ringlaw5_Deed)) (v_x2593 : Int) (v_y3124 : S_ringlaw5_Deed)  : PS := ⟨[dd, dd, dd, .ref 0 0, .srf 1, dd, .ref 2 0, .d (.v (.int .i64 v_r3537.2.2.2)), dd, dd, dd, dd, dd, dd, dd, .d (.v (.int .i64 v_r3535.1)), .d (.v (.int .i64 v_r3535.2.1)), .d (.v (.int .i64 v_r3535.2.2.1)), .d (.v (.int .i64 v_r3537.2.1)), .d (.v (.int .i64 v_r3537.2.2.1)), dd, dd, dd, dd, .d (.sl (v_l1.map eS_ringlaw5_Deed)), .d (.v (.int .i64 (v_l1.length : Int))), .d (.v (.int .i64 v_x2593)), dd, dd, dd, dd, dd, dd, dd, dd, dd, dd, dd, dd, dd, dd, dd, dd, dd, dd, dd, dd, dd, dd, dd, dd, dd, dd, dd, dd, dd, dd, dd, dd, dd, dd, dd, dd, dd, dd, dd, dd, dd, dd, dd, dd, dd, dd, dd, dd, dd, dd, dd, dd, dd, dd, dd, dd, dd, dd, dd, dd, dd, dd, dd, dd, dd, dd, dd, dd, dd, dd, dd, dd, dd, dd, dd, dd, dd, dd, dd, dd, dd, dd, dd, dd, dd, dd, dd, dd, dd, dd, dd, dd, dd, dd, dd, dd, dd, dd, dd, dd, dd, dd, dd, dd, dd, dd, dd, dd, dd, dd, dd, dd, dd, dd, dd, dd, dd, dd, dd, dd, dd, dd, dd, dd, dd, dd, dd, dd, dd, dd, dd, dd, dd, dd, dd, dd, dd, dd, dd, dd, dd, dd, dd, dd, dd, dd, dd, dd, dd, dd, dd, dd, dd, dd, dd, dd, dd, dd, dd, dd, dd, dd, dd, dd, dd, dd, dd, dd], [.box ((cS_proc_Table v_r3535.2.2.2).map FV.d), .row 180 5 (v_r3537.1.map eS_ringref5_Proc), .box [.d (.v (.int .i64 v_y3124.fKind)), .d (.v (.int .i64 v_y3124.fP)), .d (.v (.int .i64 v_y3124.fN))]]⟩
def G_ringlaw5_ProcPlays_C13 (n : Nat) (v_r3537 : ((List S_ringref5_Proc) × Int × Int × Int)) (v_r3535 : (Int × Int × Int × S_proc_Table)) (v_l1 : (List S_ringlaw5_Deed)) (v_x2593 : Int) (v_y3124 : S_ringlaw5_Deed) : Option G_ringlaw5_ProcPlays_C13_R :=
  if v_r3535.1 = v_r3537.2.1 then
   if v_r3535.2.1 = v_r3537.2.2.1 then
    some (.x0 (v_r3535.2.2.1 == v_r3537.2.2.2) v_r3537.1)
   else
    some (.x0 false v_r3537.1)
  else
   some (.x0 false v_r3537.1)
theorem G_ringlaw5_ProcPlays_C13_ok {Fi : Ex → PS → Prop} (hF : KC 195 Fi) (ks : List Fr) (n : Nat) (v_r3537 : ((List S_ringref5_Proc) × Int × Int × Int)) (v_r3535 : (Int × Int × Int × S_proc_Table)) (v_l1 : (List S_ringlaw5_Deed)) (v_x2593 : Int) (v_y3124 : S_ringlaw5_Deed)  (o : G_ringlaw5_ProcPlays_C13_R) (h : G_ringlaw5_ProcPlays_C13 n v_r3537 v_r3535 v_l1 v_x2593 v_y3124 = some o) (q : RunE Try.prog 195 Fi ks (G_ringlaw5_ProcPlays_C13_ex o) (G_ringlaw5_ProcPlays_C13_st v_r3537 v_r3535 v_l1 v_x2593 v_y3124 o)) : RunE Try.prog 195 Fi (.s (cR (cR (cR (cT (cR (cF (cR (cF (cR (cB (cR (cL (cR (cR (cR (cB (cL (cR (cR (cP (cB (cR (cL (cR (cR (cR (cR (bodyOf Try.f11)))))))))))))))))))))))))))) :: ks) .normal (G_ringlaw5_ProcPlays_C13_hd v_r3537 v_r3535 v_l1 v_x2593 v_y3124) := by
  unfold G_ringlaw5_ProcPlays_C13 at h
  by_cases h2820 : v_r3535.1 = v_r3537.2.1
  · rw [if_pos h2820] at h
    by_cases h2821 : v_r3535.2.1 = v_r3537.2.2.1
    · rw [if_pos h2821] at h
      cases h
      exact pkk_sound TTok mix hF 1 (hs := [.t true, .c, .c, .t true, .c, .c]) (ts := []) (s := [0, 1, 2]) (l := [3, 4, 6, 8, 24, 25, 26]) (by kernel_rfl) (by kernel_rfl) (.cons (bt h2820) (.cons (bt h2821) .nil)) q
    · rw [if_neg h2821] at h
      cases h
      exact pkk_sound TTok mix hF 1 (hs := [.t true, .c, .c, .t false, .c, .c]) (ts := []) (s := [0, 1, 2]) (l := [3, 4, 6, 8, 24, 25, 26]) (by kernel_rfl) (by kernel_rfl) (.cons (bt h2820) (.cons (bf h2821) .nil)) q
  · rw [if_neg h2820] at h
    cases h
    exact pkk_sound TTok mix hF 1 (hs := [.t false, .c, .c, .c, .c, .c]) (ts := []) (s := [0, 1, 2]) (l := [3, 4, 6, 8, 24, 25, 26]) (by kernel_rfl) (by kernel_rfl) (.cons (bf h2820) .nil) q
inductive G_ringlaw5_ProcPlays_C14_R where
  | x0 (v_ok3550 : Bool) (v_w3551 : (List S_ringref5_Proc))
def G_ringlaw5_ProcPlays_C14_ex : G_ringlaw5_ProcPlays_C14_R → Ex
  | .x0 _ _ => .normal
def G_ringlaw5_ProcPlays_C14_st (v_r3125 : (Int)) (v_r3535 : (Int × Int × Int × S_proc_Table)) (v_l1 : (List S_ringlaw5_Deed)) (v_x2593 : Int) (v_w2595 : (List S_ringref5_Proc)) (v_y3124 : S_ringlaw5_Deed) : G_ringlaw5_ProcPlays_C14_R → PS
  | .x0 v_ok3550 v_w3551 => ⟨[dd, dd, dd, .ref 0 0, .srf 1, dd, .ref 2 0, dd, .d (.v (.bool v_ok3550)), dd, dd, dd, dd, dd, dd, dd, dd, dd, dd, dd, dd, dd, dd, dd, .d (.sl (v_l1.map eS_ringlaw5_Deed)), .d (.v (.int .i64 (v_l1.length : Int))), .d (.v (.int .i64 v_x2593)), dd, dd, dd, dd, dd, dd, dd, dd, dd, dd, dd, dd, dd, dd, dd, dd, dd, dd, dd, dd, dd, dd, dd, dd, dd, dd, dd, dd, dd, dd, dd, dd, dd, dd, dd, dd, dd, dd, dd, dd, dd, dd, dd, dd, dd, dd, dd, dd, dd, dd, dd, dd, dd, dd, dd, dd, dd, dd, dd, dd, dd, dd, dd, dd, dd, dd, dd, dd, dd, dd, dd, dd, dd, dd, dd, dd, dd, dd, dd, dd, dd, dd, dd, dd, dd, dd, dd, dd, dd, dd, dd, dd, dd, dd, dd, dd, dd, dd, dd, dd, dd, dd, dd, dd, dd, dd, dd, dd, dd, dd, dd, dd, dd, dd, dd, dd, dd, dd, dd, dd, dd, dd, dd, dd, dd, dd, dd, dd, dd, dd, dd, dd, dd, dd, dd, dd, dd, dd, dd, dd, dd, dd, dd, dd, dd, dd, dd, dd, dd, dd, dd, dd, dd, dd, dd, dd, dd, dd, dd, dd, dd, dd, dd, dd, dd, dd, dd, dd], [.box ((cS_proc_Table v_r3535.2.2.2).map FV.d), .row 180 5 (v_w3551.map eS_ringref5_Proc), .box [.d (.v (.int .i64 v_y3124.fKind)), .d (.v (.int .i64 v_y3124.fP)), .d (.v (.int .i64 v_y3124.fN))]]⟩
def G_ringlaw5_ProcPlays_C14_hd (v_r3125 : (Int)) (v_r3535 : (Int × Int × Int × S_proc_Table)) (v_l1 : (List S_ringlaw5_Deed)) (v_x2593 : Int) (v_w2595 : (List S_ringref5_Proc)) (v_y3124 : S_ringlaw5_Deed)  : PS := ⟨[dd, dd, dd, .ref 0 0, .srf 1, dd, .ref 2 0, .d (.v (.int .i64 v_r3125)), dd, dd, dd, dd, dd, dd, dd, .d (.v (.int .i64 v_r3535.1)), .d (.v (.int .i64 v_r3535.2.1)), .d (.v (.int .i64 v_r3535.2.2.1)), .d (.v (.int .i64 0)), .d (.v (.int .i64 0)), dd, dd, dd, dd, .d (.sl (v_l1.map eS_ringlaw5_Deed)), .d (.v (.int .i64 (v_l1.length : Int))), .d (.v (.int .i64 v_x2593)), dd, dd, dd, dd, dd, dd, dd, dd, dd, dd, dd, dd, dd, dd, dd, dd, dd, dd, dd, dd, dd, dd, dd, dd, dd, dd, dd, dd, dd, dd, dd, dd, dd, dd, dd, dd, dd, dd, dd, dd, dd, dd, dd, dd, dd, dd, dd, dd, dd, dd, dd, dd, dd, dd, dd, dd, dd, dd, dd, dd, dd, dd, dd, dd, dd, dd, dd, dd, dd, dd, dd, dd, dd, dd, dd, dd, dd, dd, dd, dd, dd, dd, dd, dd, dd, dd, dd, dd, dd, dd, dd, dd, dd, dd, dd, dd, dd, dd, dd, dd, dd, dd, dd, dd, dd, dd, dd, dd, dd, dd, dd, dd, dd, dd, dd, dd, dd, dd, dd, dd, dd, dd, dd, dd, dd, dd, dd, dd, dd, dd, dd, dd, dd, dd, dd, dd, dd, dd, dd, dd, dd, dd, dd, dd, dd, dd, dd, dd, dd, dd, dd, dd, dd, dd, dd, dd, dd, dd, dd, dd, dd, dd, dd, dd, dd, dd, dd, dd], [.box ((cS_proc_Table v_r3535.2.2.2).map FV.d), .row 180 5 (v_w2595.map eS_ringref5_Proc), .box [.d (.v (.int .i64 v_y3124.fKind)), .d (.v (.int .i64 v_y3124.fP)), .d (.v (.int .i64 v_y3124.fN))]]⟩
def G_ringlaw5_ProcPlays_C14 (n : Nat) (v_r3125 : (Int)) (v_r3535 : (Int × Int × Int × S_proc_Table)) (v_l1 : (List S_ringlaw5_Deed)) (v_x2593 : Int) (v_w2595 : (List S_ringref5_Proc)) (v_y3124 : S_ringlaw5_Deed) : Option G_ringlaw5_ProcPlays_C14_R :=
  if v_r3535.1 = 0 then
   if v_r3535.2.1 = 0 then
    some (.x0 (v_r3535.2.2.1 == v_r3125) v_w2595)
   else
    some (.x0 false v_w2595)
  else
   some (.x0 false v_w2595)
theorem G_ringlaw5_ProcPlays_C14_ok {Fi : Ex → PS → Prop} (hF : KC 195 Fi) (ks : List Fr) (n : Nat) (v_r3125 : (Int)) (v_r3535 : (Int × Int × Int × S_proc_Table)) (v_l1 : (List S_ringlaw5_Deed)) (v_x2593 : Int) (v_w2595 : (List S_ringref5_Proc)) (v_y3124 : S_ringlaw5_Deed)  (o : G_ringlaw5_ProcPlays_C14_R) (h : G_ringlaw5_ProcPlays_C14 n v_r3125 v_r3535 v_l1 v_x2593 v_w2595 v_y3124 = some o) (q : RunE Try.prog 195 Fi ks (G_ringlaw5_ProcPlays_C14_ex o) (G_ringlaw5_ProcPlays_C14_st v_r3125 v_r3535 v_l1 v_x2593 v_w2595 v_y3124 o)) : RunE Try.prog 195 Fi (.s (cR (cR (cR (cT (cR (cF (cR (cF (cR (cB (cR (cL (cR (cR (cR (cB (cL (cR (cR (cP (cB (cR (cL (cR (cR (cR (cR (bodyOf Try.f11)))))))))))))))))))))))))))) :: ks) .normal (G_ringlaw5_ProcPlays_C14_hd v_r3125 v_r3535 v_l1 v_x2593 v_w2595 v_y3124) := by
  unfold G_ringlaw5_ProcPlays_C14 at h
  by_cases h2825 : v_r3535.1 = 0
  · rw [if_pos h2825] at h
    by_cases h2826 : v_r3535.2.1 = 0
    · rw [if_pos h2826] at h
      cases h
      exact pkk_sound TTok mix hF 1 (hs := [.t true, .c, .c, .t true, .c, .c]) (ts := []) (s := [0, 1, 2]) (l := [3, 4, 6, 8, 24, 25, 26]) (by kernel_rfl) (by kernel_rfl) (.cons (bt h2825) (.cons (bt h2826) .nil)) q
    · rw [if_neg h2826] at h
      cases h
      exact pkk_sound TTok mix hF 1 (hs := [.t true, .c, .c, .t false, .c, .c]) (ts := []) (s := [0, 1, 2]) (l := [3, 4, 6, 8, 24, 25, 26]) (by kernel_rfl) (by kernel_rfl) (.cons (bt h2825) (.cons (bf h2826) .nil)) q
  · rw [if_neg h2825] at h
    cases h
    exact pkk_sound TTok mix hF 1 (hs := [.t false, .c, .c, .c, .c, .c]) (ts := []) (s := [0, 1, 2]) (l := [3, 4, 6, 8, 24, 25, 26]) (by kernel_rfl) (by kernel_rfl) (.cons (bf h2825) .nil) q
inductive G_ringlaw5_ProcPlays_C15_R where
  | x0 (v_x3562 : Bool) (v_w3563 : (List S_ringref5_Proc))
def G_ringlaw5_ProcPlays_C15_ex : G_ringlaw5_ProcPlays_C15_R → Ex
  | .x0 _ _ => .normal
def G_ringlaw5_ProcPlays_C15_st (v_r3125 : (Int)) (v_l1 : (List S_ringlaw5_Deed)) (v_x2593 : Int) (v_b2594 : S_proc_Table) (v_w2595 : (List S_ringref5_Proc)) (v_y3124 : S_ringlaw5_Deed) : G_ringlaw5_ProcPlays_C15_R → PS
  | .x0 v_x3562 v_w3563 => ⟨[dd, dd, dd, .ref 0 0, .srf 1, dd, .ref 2 0, .d (.v (.int .i64 v_r3125)), dd, dd, dd, dd, dd, dd, dd, dd, dd, dd, dd, dd, dd, dd, dd, dd, .d (.sl (v_l1.map eS_ringlaw5_Deed)), .d (.v (.int .i64 (v_l1.length : Int))), .d (.v (.int .i64 v_x2593)), dd, dd, dd, dd, dd, dd, dd, dd, dd, dd, dd, dd, dd, dd, dd, dd, dd, dd, dd, dd, dd, dd, dd, dd, dd, dd, dd, dd, dd, dd, dd, dd, dd, dd, dd, dd, dd, dd, dd, dd, dd, dd, dd, dd, dd, dd, dd, dd, dd, dd, dd, dd, dd, dd, dd, dd, dd, dd, dd, dd, dd, dd, dd, dd, dd, dd, dd, dd, dd, dd, dd, dd, dd, dd, dd, dd, dd, dd, dd, dd, dd, dd, dd, dd, dd, dd, dd, dd, dd, dd, dd, dd, dd, dd, dd, dd, dd, dd, dd, dd, dd, dd, dd, dd, dd, dd, dd, dd, dd, dd, dd, dd, dd, dd, dd, dd, dd, dd, dd, dd, dd, dd, .d (.v (.bool v_x3562)), dd, dd, dd, dd, dd, dd, dd, dd, dd, dd, dd, dd, dd, dd, dd, dd, dd, dd, dd, dd, dd, dd, dd, dd, dd, dd, dd, dd, dd, dd, dd, dd, dd, dd, dd, dd, dd, dd, dd, dd, dd, dd, dd, dd, dd], [.box ((cS_proc_Table v_b2594).map FV.d), .row 180 5 (v_w3563.map eS_ringref5_Proc), .box [.d (.v (.int .i64 v_y3124.fKind)), .d (.v (.int .i64 v_y3124.fP)), .d (.v (.int .i64 v_y3124.fN))]]⟩
def G_ringlaw5_ProcPlays_C15_hd (v_r3125 : (Int)) (v_l1 : (List S_ringlaw5_Deed)) (v_x2593 : Int) (v_b2594 : S_proc_Table) (v_w2595 : (List S_ringref5_Proc)) (v_y3124 : S_ringlaw5_Deed)  : PS := ⟨[dd, dd, dd, .ref 0 0, .srf 1, dd, .ref 2 0, .d (.v (.int .i64 v_r3125)), dd, dd, dd, dd, dd, dd, dd, dd, dd, dd, dd, dd, dd, dd, dd, dd, .d (.sl (v_l1.map eS_ringlaw5_Deed)), .d (.v (.int .i64 (v_l1.length : Int))), .d (.v (.int .i64 v_x2593)), dd, dd, dd, dd, dd, dd, dd, dd, dd, dd, dd, dd, dd, dd, dd, dd, dd, dd, dd, dd, dd, dd, dd, dd, dd, dd, dd, dd, dd, dd, dd, dd, dd, dd, dd, dd, dd, dd, dd, dd, dd, dd, dd, dd, dd, dd, dd, dd, dd, dd, dd, dd, dd, dd, dd, dd, dd, dd, dd, dd, dd, dd, dd, dd, dd, dd, dd, dd, dd, dd, dd, dd, dd, dd, dd, dd, dd, dd, dd, dd, dd, dd, dd, dd, dd, dd, dd, dd, dd, dd, dd, dd, dd, dd, dd, dd, dd, dd, dd, dd, dd, dd, dd, dd, dd, dd, dd, dd, dd, dd, dd, dd, dd, dd, dd, dd, dd, dd, dd, dd, dd, dd, dd, dd, dd, dd, dd, dd, dd, dd, dd, dd, dd, dd, dd, dd, dd, dd, dd, dd, dd, dd, dd, dd, dd, dd, dd, dd, dd, dd, dd, dd, dd, dd, dd, dd, dd, dd, dd, dd, dd, dd, dd, dd, dd, dd, dd, dd], [.box ((cS_proc_Table v_b2594).map FV.d), .row 180 5 (v_w2595.map eS_ringref5_Proc), .box [.d (.v (.int .i64 v_y3124.fKind)), .d (.v (.int .i64 v_y3124.fP)), .d (.v (.int .i64 v_y3124.fN))]]⟩
def G_ringlaw5_ProcPlays_C15 (n : Nat) (v_r3125 : (Int)) (v_l1 : (List S_ringlaw5_Deed)) (v_x2593 : Int) (v_b2594 : S_proc_Table) (v_w2595 : (List S_ringref5_Proc)) (v_y3124 : S_ringlaw5_Deed) : Option G_ringlaw5_ProcPlays_C15_R :=
  if v_r3125 = 0 then
   if v_y3124.fN < 1 then
    some (.x0 true v_w2595)
   else
    some (.x0 (decide (v_y3124.fN > 16)) v_w2595)
  else
   some (.x0 false v_w2595)
theorem G_ringlaw5_ProcPlays_C15_ok {Fi : Ex → PS → Prop} (hF : KC 195 Fi) (ks : List Fr) (n : Nat) (v_r3125 : (Int)) (v_l1 : (List S_ringlaw5_Deed)) (v_x2593 : Int) (v_b2594 : S_proc_Table) (v_w2595 : (List S_ringref5_Proc)) (v_y3124 : S_ringlaw5_Deed)  (o : G_ringlaw5_ProcPlays_C15_R) (h : G_ringlaw5_ProcPlays_C15 n v_r3125 v_l1 v_x2593 v_b2594 v_w2595 v_y3124 = some o) (q : RunE Try.prog 195 Fi ks (G_ringlaw5_ProcPlays_C15_ex o) (G_ringlaw5_ProcPlays_C15_st v_r3125 v_l1 v_x2593 v_b2594 v_w2595 v_y3124 o)) : RunE Try.prog 195 Fi (.s (cL (cL (cT (cR (cF (cR (cF (cR (cF (cR (cB (cR (cL (cR (cR (cR (cB (cL (cR (cR (cP (cB (cR (cL (cR (cR (cR (cR (bodyOf Try.f11))))))))))))))))))))))))))))) :: ks) .normal (G_ringlaw5_ProcPlays_C15_hd v_r3125 v_l1 v_x2593 v_b2594 v_w2595 v_y3124) := by
  unfold G_ringlaw5_ProcPlays_C15 at h
  by_cases h2831 : v_r3125 = 0
  · rw [if_pos h2831] at h
    by_cases h2832 : v_y3124.fN < 1
    · rw [if_pos h2832] at h
      cases h
      exact pkk_sound TTok mix hF 1 (hs := [.t true, .c, .c, .c, .c, .t true, .c, .c, .c]) (ts := []) (s := [0, 1, 2]) (l := [3, 4, 6, 7, 24, 25, 26, 149]) (by kernel_rfl) (by kernel_rfl) (.cons (bt h2831) (.cons (dt h2832) .nil)) q
    · rw [if_neg h2832] at h
      cases h
      exact pkk_sound TTok mix hF 1 (hs := [.t true, .c, .c, .c, .c, .t false, .c, .c, .c, .c]) (ts := []) (s := [0, 1, 2]) (l := [3, 4, 6, 7, 24, 25, 26, 149]) (by kernel_rfl) (by kernel_rfl) (.cons (bt h2831) (.cons (df h2832) .nil)) q
  · rw [if_neg h2831] at h
    cases h
    exact pkk_sound TTok mix hF 1 (hs := [.t false, .c, .c, .c, .c]) (ts := []) (s := [0, 1, 2]) (l := [3, 4, 6, 7, 24, 25, 26, 149]) (by kernel_rfl) (by kernel_rfl) (.cons (bf h2831) .nil) q
inductive G_ringlaw5_ProcPlays_C16_R where
  | x0 (v_x3588 : Bool) (v_w3589 : (List S_ringref5_Proc))
def G_ringlaw5_ProcPlays_C16_ex : G_ringlaw5_ProcPlays_C16_R → Ex
  | .x0 _ _ => .normal
def G_ringlaw5_ProcPlays_C16_st (v_r3125 : (Int)) (v_l1 : (List S_ringlaw5_Deed)) (v_x2593 : Int) (v_b2594 : S_proc_Table) (v_z3570 : (List S_ringref5_Proc)) (v_y3124 : S_ringlaw5_Deed) : G_ringlaw5_ProcPlays_C16_R → PS
  | .x0 v_x3588 v_w3589 => ⟨[dd, dd, dd, .ref 0 0, .srf 1, dd, .d (.iptr [.v (.int .i64 v_y3124.fKind), .v (.int .i64 v_y3124.fP), .v (.int .i64 v_y3124.fN)] 0), .d (.v (.int .i64 v_r3125)), dd, dd, dd, dd, dd, dd, dd, dd, dd, dd, dd, dd, dd, dd, dd, dd, .d (.sl (v_l1.map eS_ringlaw5_Deed)), .d (.v (.int .i64 (v_l1.length : Int))), .d (.v (.int .i64 v_x2593)), dd, dd, dd, dd, dd, dd, dd, dd, dd, dd, dd, dd, dd, dd, dd, dd, dd, dd, dd, dd, dd, dd, dd, dd, dd, dd, dd, dd, dd, dd, dd, dd, dd, dd, dd, dd, dd, dd, dd, dd, dd, dd, dd, dd, dd, dd, dd, dd, dd, dd, dd, dd, dd, dd, dd, dd, dd, dd, dd, dd, dd, dd, dd, dd, dd, dd, dd, dd, dd, dd, dd, dd, dd, dd, dd, dd, dd, dd, dd, dd, dd, dd, dd, dd, dd, dd, dd, dd, dd, dd, dd, dd, dd, dd, dd, dd, dd, dd, dd, dd, dd, dd, dd, dd, dd, dd, dd, dd, dd, dd, dd, dd, dd, dd, dd, dd, dd, dd, dd, dd, dd, dd, dd, dd, dd, dd, dd, dd, dd, dd, dd, dd, dd, dd, dd, dd, dd, dd, .d (.v (.bool v_x3588)), dd, dd, dd, dd, dd, dd, dd, dd, dd, dd, dd, dd, dd, dd, dd, dd, dd, dd, dd, dd, dd, dd, dd, dd, dd, dd, dd, dd, dd], [.box ((cS_proc_Table v_b2594).map FV.d), .row 180 5 (v_w3589.map eS_ringref5_Proc)]⟩
def G_ringlaw5_ProcPlays_C16_hd (v_r3125 : (Int)) (v_l1 : (List S_ringlaw5_Deed)) (v_x2593 : Int) (v_b2594 : S_proc_Table) (v_z3570 : (List S_ringref5_Proc)) (v_y3124 : S_ringlaw5_Deed)  : PS := ⟨[dd, dd, dd, .ref 0 0, .srf 1, dd, .ref 2 0, .d (.v (.int .i64 v_r3125)), dd, dd, dd, dd, dd, dd, dd, dd, dd, dd, dd, dd, dd, dd, dd, dd, .d (.sl (v_l1.map eS_ringlaw5_Deed)), .d (.v (.int .i64 (v_l1.length : Int))), .d (.v (.int .i64 v_x2593)), dd, dd, dd, dd, dd, dd, dd, dd, dd, dd, dd, dd, dd, dd, dd, dd, dd, dd, dd, dd, dd, dd, dd, dd, dd, dd, dd, dd, dd, dd, dd, dd, dd, dd, dd, dd, dd, dd, dd, dd, dd, dd, dd, dd, dd, dd, dd, dd, dd, dd, dd, dd, dd, dd, dd, dd, dd, dd, dd, dd, dd, dd, dd, dd, dd, dd, dd, dd, dd, dd, dd, dd, dd, dd, dd, dd, dd, dd, dd, dd, dd, dd, dd, dd, dd, dd, dd, dd, dd, dd, dd, dd, dd, dd, dd, dd, dd, dd, dd, dd, dd, dd, dd, dd, dd, dd, dd, dd, dd, dd, dd, dd, dd, dd, dd, dd, dd, dd, dd, dd, dd, dd, dd, dd, dd, dd, dd, dd, dd, dd, dd, dd, dd, dd, dd, dd, dd, dd, dd, dd, dd, dd, dd, dd, dd, dd, dd, dd, dd, dd, dd, dd, dd, dd, dd, dd, dd, dd, dd, dd, dd, dd, dd, dd, dd, dd, dd, dd], [.box ((cS_proc_Table v_b2594).map FV.d), .row 180 5 (v_z3570.map eS_ringref5_Proc), .box [.d (.v (.int .i64 v_y3124.fKind)), .d (.v (.int .i64 v_y3124.fP)), .d (.v (.int .i64 v_y3124.fN))]]⟩
def G_ringlaw5_ProcPlays_C16 (n : Nat) (v_r3125 : (Int)) (v_l1 : (List S_ringlaw5_Deed)) (v_x2593 : Int) (v_b2594 : S_proc_Table) (v_z3570 : (List S_ringref5_Proc)) (v_y3124 : S_ringlaw5_Deed) : Option G_ringlaw5_ProcPlays_C16_R :=
  if v_r3125 = 0 then
   if v_y3124.fN = v_y3124.fP then
    some (.x0 false v_z3570)
   else
    (G_ringref5_Procs_Living_h n v_z3570 (fun (y0 : S_ringref5_Proc) => G_ringlaw5_ProcPlays_1 n y0 v_y3124)).bind fun (v_r3587 : ((List Int) × (List S_ringref5_Proc))) =>
    some (.x0 ((v_r3587.1.length : Int) == 0) v_r3587.2)
  else
   some (.x0 false v_z3570)
theorem G_ringlaw5_ProcPlays_C16_ok {Fi : Ex → PS → Prop} (hF : KC 195 Fi) (ks : List Fr) (n : Nat) (v_r3125 : (Int)) (v_l1 : (List S_ringlaw5_Deed)) (v_x2593 : Int) (v_b2594 : S_proc_Table) (v_z3570 : (List S_ringref5_Proc)) (v_y3124 : S_ringlaw5_Deed)  (o : G_ringlaw5_ProcPlays_C16_R) (h : G_ringlaw5_ProcPlays_C16 n v_r3125 v_l1 v_x2593 v_b2594 v_z3570 v_y3124 = some o) (q : RunE Try.prog 195 Fi ks (G_ringlaw5_ProcPlays_C16_ex o) (G_ringlaw5_ProcPlays_C16_st v_r3125 v_l1 v_x2593 v_b2594 v_z3570 v_y3124 o)) : RunE Try.prog 195 Fi (.s (cL (cF (cR (cL (cT (cR (cF (cR (cF (cR (cF (cR (cB (cR (cL (cR (cR (cR (cB (cL (cR (cR (cP (cB (cR (cL (cR (cR (cR (cR (bodyOf Try.f11))))))))))))))))))))))))))))))) :: ks) .normal (G_ringlaw5_ProcPlays_C16_hd v_r3125 v_l1 v_x2593 v_b2594 v_z3570 v_y3124) := by
  unfold G_ringlaw5_ProcPlays_C16 at h
  by_cases h2859 : v_r3125 = 0
  · rw [if_pos h2859] at h
    by_cases h2860 : v_y3124.fN = v_y3124.fP
    · rw [if_pos h2860] at h
      cases h
      exact pkk_sound TTok mix hF 2 (hs := [.fb 2, .t true, .c, .c, .c, .c, .c, .c, .t false, .c, .c, .c, .c]) (ts := []) (s := [0, 1]) (l := [3, 4, 6, 7, 24, 25, 26, 165]) (by kernel_rfl) (by kernel_rfl) (.cons (bt h2859) (.cons (nf h2860) .nil)) q
    · rw [if_neg h2860] at h
      obtain ⟨v_r3587, h2861, h⟩ := bind_some h
      cases h
      exact pkk_sound TTok mix hF 2 (hs := [.fb 2, .t true, .c, .c, .c, .c, .c, .c, .t true, .c, .c, .h [1] [] [.row 180 5 (v_r3587.2.map eS_ringref5_Proc)] (.d (.sl (v_r3587.1.map (eI .i64)))), .c, .u (.d (.v (.int .i64 (v_r3587.1.length : Int)))), .c]) (ts := []) (s := [0, 1]) (l := [3, 4, 6, 7, 24, 25, 26, 165]) (by kernel_rfl) (by kernel_rfl) (.cons (bt h2859) (.cons (nt h2860) (.cons (G_ringref5_Procs_Living_h_ok n v_z3570 (fun (y0 : S_ringref5_Proc) => G_ringlaw5_ProcPlays_1 n y0 v_y3124) 110 [.iptr [.v (.int .i64 v_y3124.fKind), .v (.int .i64 v_y3124.fP), .v (.int .i64 v_y3124.fN)] 0] (fun y0 r h => G_ringlaw5_ProcPlays_1_ok n y0 v_y3124 r h) _ h2861) (.cons (len_ob (f := (eI .i64)) (l := v_r3587.1)) .nil)))) q
  · rw [if_neg h2859] at h
    cases h
    exact pkk_sound TTok mix hF 2 (hs := [.fb 2, .t false, .c, .c, .c, .c, .c, .c, .c, .c, .c]) (ts := []) (s := [0, 1]) (l := [3, 4, 6, 7, 24, 25, 26, 165]) (by kernel_rfl) (by kernel_rfl) (.cons (bf h2859) .nil) q
inductive G_ringlaw5_ProcPlays_C17_R where
  | x0 (v_e3584 : Int) (v_w3585 : (List S_ringref5_Proc))
  | x1 (v_e3597 : Int) (v_w3598 : (List S_ringref5_Proc))
def G_ringlaw5_ProcPlays_C17_ex : G_ringlaw5_ProcPlays_C17_R → Ex
  | .x0 _ _ => .normal
  | .x1 _ _ => .normal
def G_ringlaw5_ProcPlays_C17_st (v_r3125 : (Int)) (v_l1 : (List S_ringlaw5_Deed)) (v_x2593 : Int) (v_z3569 : Bool) (v_b2594 : S_proc_Table) (v_z3570 : (List S_ringref5_Proc)) (v_y3124 : S_ringlaw5_Deed) : G_ringlaw5_ProcPlays_C17_R → PS
  | .x0 v_e3584 v_w3585 => ⟨[dd, dd, dd, .ref 0 0, .srf 1, dd, .ref 2 0, .d (.v (.int .i64 v_e3584)), dd, dd, dd, dd, dd, dd, dd, dd, dd, dd, dd, dd, dd, dd, dd, dd, .d (.sl (v_l1.map eS_ringlaw5_Deed)), .d (.v (.int .i64 (v_l1.length : Int))), .d (.v (.int .i64 v_x2593)), dd, dd, dd, dd, dd, dd, dd, dd, dd, dd, dd, dd, dd, dd, dd, dd, dd, dd, dd, dd, dd, dd, dd, dd, dd, dd, dd, dd, dd, dd, dd, dd, dd, dd, dd, dd, dd, dd, dd, dd, dd, dd, dd, dd, dd, dd, dd, dd, dd, dd, dd, dd, dd, dd, dd, dd, dd, dd, dd, dd, dd, dd, dd, dd, dd, dd, dd, dd, dd, dd, dd, dd, dd, dd, dd, dd, dd, dd, dd, dd, dd, dd, dd, dd, dd, dd, dd, dd, dd, dd, dd, dd, dd, dd, dd, dd, dd, dd, dd, dd, dd, dd, dd, dd, dd, dd, dd, dd, dd, dd, dd, dd, dd, dd, dd, dd, dd, dd, dd, dd, dd, dd, dd, dd, dd, dd, dd, dd, dd, dd, dd, dd, dd, dd, dd, dd, dd, dd, dd, dd, dd, dd, dd, dd, dd, dd, dd, dd, dd, dd, dd, dd, dd, dd, dd, dd, dd, dd, dd, dd, dd, dd, dd, dd, dd, dd, dd, dd], [.box ((cS_proc_Table v_b2594).map FV.d), .row 180 5 (v_w3585.map eS_ringref5_Proc), .box [.d (.v (.int .i64 v_y3124.fKind)), .d (.v (.int .i64 v_y3124.fP)), .d (.v (.int .i64 v_y3124.fN))]]⟩
  | .x1 v_e3597 v_w3598 => ⟨[dd, dd, dd, .ref 0 0, .srf 1, dd, .d (.iptr [.v (.int .i64 v_y3124.fKind), .v (.int .i64 v_y3124.fP), .v (.int .i64 v_y3124.fN)] 0), .d (.v (.int .i64 v_e3597)), dd, dd, dd, dd, dd, dd, dd, dd, dd, dd, dd, dd, dd, dd, dd, dd, .d (.sl (v_l1.map eS_ringlaw5_Deed)), .d (.v (.int .i64 (v_l1.length : Int))), .d (.v (.int .i64 v_x2593)), dd, dd, dd, dd, dd, dd, dd, dd, dd, dd, dd, dd, dd, dd, dd, dd, dd, dd, dd, dd, dd, dd, dd, dd, dd, dd, dd, dd, dd, dd, dd, dd, dd, dd, dd, dd, dd, dd, dd, dd, dd, dd, dd, dd, dd, dd, dd, dd, dd, dd, dd, dd, dd, dd, dd, dd, dd, dd, dd, dd, dd, dd, dd, dd, dd, dd, dd, dd, dd, dd, dd, dd, dd, dd, dd, dd, dd, dd, dd, dd, dd, dd, dd, dd, dd, dd, dd, dd, dd, dd, dd, dd, dd, dd, dd, dd, dd, dd, dd, dd, dd, dd, dd, dd, dd, dd, dd, dd, dd, dd, dd, dd, dd, dd, dd, dd, dd, dd, dd, dd, dd, dd, dd, dd, dd, dd, dd, dd, dd, dd, dd, dd, dd, dd, dd, dd, dd, dd, dd, dd, dd, dd, dd, dd, dd, dd, dd, dd, dd, dd, dd, dd, dd, dd, dd, dd, dd, dd, dd, dd, dd, dd, dd, dd, dd, dd, dd, dd], [.box ((cS_proc_Table v_b2594).map FV.d), .row 180 5 (v_w3598.map eS_ringref5_Proc)]⟩
def G_ringlaw5_ProcPlays_C17_hd (v_r3125 : (Int)) (v_l1 : (List S_ringlaw5_Deed)) (v_x2593 : Int) (v_z3569 : Bool) (v_b2594 : S_proc_Table) (v_z3570 : (List S_ringref5_Proc)) (v_y3124 : S_ringlaw5_Deed)  : PS := ⟨[dd, dd, dd, .ref 0 0, .srf 1, dd, .ref 2 0, .d (.v (.int .i64 v_r3125)), dd, dd, dd, dd, dd, dd, dd, dd, dd, dd, dd, dd, dd, dd, dd, dd, .d (.sl (v_l1.map eS_ringlaw5_Deed)), .d (.v (.int .i64 (v_l1.length : Int))), .d (.v (.int .i64 v_x2593)), dd, dd, dd, dd, dd, dd, dd, dd, dd, dd, dd, dd, dd, dd, dd, dd, dd, dd, dd, dd, dd, dd, dd, dd, dd, dd, dd, dd, dd, dd, dd, dd, dd, dd, dd, dd, dd, dd, dd, dd, dd, dd, dd, dd, dd, dd, dd, dd, dd, dd, dd, dd, dd, dd, dd, dd, dd, dd, dd, dd, dd, dd, dd, dd, dd, dd, dd, dd, dd, dd, dd, dd, dd, dd, dd, dd, dd, dd, dd, dd, dd, dd, dd, dd, dd, dd, dd, dd, dd, dd, dd, dd, dd, dd, dd, dd, dd, dd, dd, dd, dd, dd, dd, dd, dd, dd, dd, dd, dd, dd, dd, dd, dd, dd, dd, dd, dd, dd, dd, dd, dd, dd, .d (.v (.bool v_z3569)), dd, dd, dd, dd, dd, dd, dd, dd, dd, dd, dd, dd, dd, dd, dd, dd, dd, dd, dd, dd, dd, dd, dd, dd, dd, dd, dd, dd, dd, dd, dd, dd, dd, dd, dd, dd, dd, dd, dd, dd, dd, dd, dd, dd, dd], [.box ((cS_proc_Table v_b2594).map FV.d), .row 180 5 (v_z3570.map eS_ringref5_Proc), .box [.d (.v (.int .i64 v_y3124.fKind)), .d (.v (.int .i64 v_y3124.fP)), .d (.v (.int .i64 v_y3124.fN))]]⟩
def G_ringlaw5_ProcPlays_C17 (n : Nat) (v_r3125 : (Int)) (v_l1 : (List S_ringlaw5_Deed)) (v_x2593 : Int) (v_z3569 : Bool) (v_b2594 : S_proc_Table) (v_z3570 : (List S_ringref5_Proc)) (v_y3124 : S_ringlaw5_Deed) : Option G_ringlaw5_ProcPlays_C17_R :=
  if v_z3569 = true then
   some (.x0 1 v_z3570)
  else
   (G_ringlaw5_ProcPlays_C16 n v_r3125 v_l1 v_x2593 v_b2594 v_z3570 v_y3124).bind fun v_o3594 => match v_o3594 with
   | .x0 v_z3595 v_z3596 =>
     if v_z3595 = true then
      some (.x1 4 v_z3596)
     else
      if v_r3125 = 0 then
       (G_ringref5_Procs_Find n v_z3596 v_y3124.fP).bind fun (v_r3599 : (Int)) =>
       if 0 ≤ v_r3599 ∧ (v_r3599).toNat < v_z3596.length then
        (v_z3596[(v_r3599).toNat]?).bind fun (v_y3600 : S_ringref5_Proc) =>
        some (.x1 v_r3125 (v_z3596.set (v_r3599).toNat (S_ringref5_Proc.mk v_y3600.fId v_y3600.fUp v_y3124.fN v_y3600.fStatus v_y3600.fEnded)))
       else none
      else
       some (.x1 v_r3125 v_z3596)
theorem G_ringlaw5_ProcPlays_C17_ok {Fi : Ex → PS → Prop} (hF : KC 195 Fi) (ks : List Fr) (n : Nat) (v_r3125 : (Int)) (v_l1 : (List S_ringlaw5_Deed)) (v_x2593 : Int) (v_z3569 : Bool) (v_b2594 : S_proc_Table) (v_z3570 : (List S_ringref5_Proc)) (v_y3124 : S_ringlaw5_Deed)  (o : G_ringlaw5_ProcPlays_C17_R) (h : G_ringlaw5_ProcPlays_C17 n v_r3125 v_l1 v_x2593 v_z3569 v_b2594 v_z3570 v_y3124 = some o) (q : RunE Try.prog 195 Fi ks (G_ringlaw5_ProcPlays_C17_ex o) (G_ringlaw5_ProcPlays_C17_st v_r3125 v_l1 v_x2593 v_z3569 v_b2594 v_z3570 v_y3124 o)) : RunE Try.prog 195 Fi (.s (cR (cL (cT (cR (cF (cR (cF (cR (cF (cR (cB (cR (cL (cR (cR (cR (cB (cL (cR (cR (cP (cB (cR (cL (cR (cR (cR (cR (bodyOf Try.f11))))))))))))))))))))))))))))) :: ks) .normal (G_ringlaw5_ProcPlays_C17_hd v_r3125 v_l1 v_x2593 v_z3569 v_b2594 v_z3570 v_y3124) := by
  unfold G_ringlaw5_ProcPlays_C17 at h
  by_cases h2851 : v_z3569 = true
  · rw [if_pos h2851] at h
    cases h
    exact pkk_sound TTok mix hF 2 (hs := [.t true]) (ts := []) (s := [0, 1, 2]) (l := [3, 4, 6, 7, 24, 25, 26]) (by kernel_rfl) (by kernel_rfl) (.cons h2851 .nil) q
  · rw [if_neg h2851] at h
    obtain ⟨v_o3594, h2862, h⟩ := bind_some h
    refine pkk_sound TTok mix hF 2 (hs := [.t false]) (ts := []) (s := [0, 1, 2]) (l := [3, 4, 6, 7, 24, 25, 26]) (by kernel_rfl) (by kernel_rfl) (.cons (vf h2851) .nil) (G_ringlaw5_ProcPlays_C16_ok hF (.s (cR (cF (cR (cL (cT (cR (cF (cR (cF (cR (cF (cR (cB (cR (cL (cR (cR (cR (cB (cL (cR (cR (cP (cB (cR (cL (cR (cR (cR (cR (bodyOf Try.f11))))))))))))))))))))))))))))))) :: ks) n v_r3125 v_l1 v_x2593 v_b2594 v_z3570 v_y3124 _ h2862 ?_)
    cases v_o3594 with
    | x0 v_z3595 v_z3596 =>
      try dsimp only at h
      by_cases h2863 : v_z3595 = true
      · rw [if_pos h2863] at h
        cases h
        exact pkk_sound TTok mix hF 2 (hs := [.t true]) (ts := []) (s := [0, 1]) (l := [3, 4, 6, 7, 24, 25, 26]) (by kernel_rfl) (by kernel_rfl) (.cons h2863 .nil) q
      · rw [if_neg h2863] at h
        by_cases h2864 : v_r3125 = 0
        · rw [if_pos h2864] at h
          obtain ⟨v_r3599, h2865, h⟩ := bind_some h
          by_cases h2866 : 0 ≤ v_r3599 ∧ (v_r3599).toNat < v_z3596.length
          · rw [if_pos h2866] at h
            obtain ⟨v_y3600, h2867, h⟩ := bind_some h
            cases h
            exact pkk_sound TTok mix hF 5 (hs := [.t false, .t true, .c, .c, .r ((eI .i64) v_r3599), .c, .w ((v_z3596.set (v_r3599).toNat (S_ringref5_Proc.mk v_y3600.fId v_y3600.fUp v_y3124.fN v_y3600.fStatus v_y3600.fEnded)).map eS_ringref5_Proc), .y (eS_ringref5_Proc v_y3600)]) (ts := []) (s := [0, 1]) (l := [3, 4, 6, 7, 24, 25, 26]) (by kernel_rfl) (by kernel_rfl) (.cons (vf h2863) (.cons (bt h2864) (.cons (G_ringref5_Procs_Find_ok n v_z3596 v_y3124.fP _ h2865) (.cons (idx_ob (f := eS_ringref5_Proc) h2866) (.cons (get_ob (f := eS_ringref5_Proc) h2867) (.cons (Eq.refl (pcells (.agg [.v (.int .i64 v_y3600.fId), .v (.int .i64 v_y3600.fUp), .v (.int .i64 v_y3124.fN), .v (.int .i64 v_y3600.fStatus), .v (.bool v_y3600.fEnded)]))) (.cons (set_ob (f := eS_ringref5_Proc) (l := v_z3596) (k := (v_r3599).toNat) (z := (S_ringref5_Proc.mk v_y3600.fId v_y3600.fUp v_y3124.fN v_y3600.fStatus v_y3600.fEnded)) (p := .agg [.v (.int .i64 v_y3600.fId), .v (.int .i64 v_y3600.fUp), .v (.int .i64 v_y3124.fN), .v (.int .i64 v_y3600.fStatus), .v (.bool v_y3600.fEnded)]) rfl) .nil))))))) q
          · rw [if_neg h2866] at h; cases h
        · rw [if_neg h2864] at h
          cases h
          exact pkk_sound TTok mix hF 5 (hs := [.t false, .t false]) (ts := []) (s := [0, 1]) (l := [3, 4, 6, 7, 24, 25, 26]) (by kernel_rfl) (by kernel_rfl) (.cons (vf h2863) (.cons (bf h2864) .nil)) q
inductive G_ringlaw5_ProcPlays_C18_R where
  | x0 (v_ok3499 : Bool) (v_b3500 : S_proc_Table) (v_w3501 : (List S_ringref5_Proc))
  | x1 (v_ok3615 : Bool) (v_b3616 : S_proc_Table) (v_w3617 : (List S_ringref5_Proc))
  | x2 (v_ok3618 : Bool) (v_w3619 : (List S_ringref5_Proc))
def G_ringlaw5_ProcPlays_C18_ex : G_ringlaw5_ProcPlays_C18_R → Ex
  | .x0 _ _ _ => .normal
  | .x1 _ _ _ => .normal
  | .x2 _ _ => .normal
def G_ringlaw5_ProcPlays_C18_st (v_r3125 : (Int)) (v_l1 : (List S_ringlaw5_Deed)) (v_x2593 : Int) (v_r3126 : (Int)) (v_b2594 : S_proc_Table) (v_w2595 : (List S_ringref5_Proc)) (v_y3124 : S_ringlaw5_Deed) : G_ringlaw5_ProcPlays_C18_R → PS
  | .x0 v_ok3499 v_b3500 v_w3501 => ⟨[dd, dd, dd, .ref 0 0, .srf 1, dd, .ref 2 0, dd, .d (.v (.bool v_ok3499)), dd, dd, dd, dd, dd, dd, dd, dd, dd, dd, dd, dd, dd, dd, dd, .d (.sl (v_l1.map eS_ringlaw5_Deed)), .d (.v (.int .i64 (v_l1.length : Int))), .d (.v (.int .i64 v_x2593)), dd, dd, dd, dd, dd, dd, dd, dd, dd, dd, dd, dd, dd, dd, dd, dd, dd, dd, dd, dd, dd, dd, dd, dd, dd, dd, dd, dd, dd, dd, dd, dd, dd, dd, dd, dd, dd, dd, dd, dd, dd, dd, dd, dd, dd, dd, dd, dd, dd, dd, dd, dd, dd, dd, dd, dd, dd, dd, dd, dd, dd, dd, dd, dd, dd, dd, dd, dd, dd, dd, dd, dd, dd, dd, dd, dd, dd, dd, dd, dd, dd, dd, dd, dd, dd, dd, dd, dd, dd, dd, dd, dd, dd, dd, dd, dd, dd, dd, dd, dd, dd, dd, dd, dd, dd, dd, dd, dd, dd, dd, dd, dd, dd, dd, dd, dd, dd, dd, dd, dd, dd, dd, dd, dd, dd, dd, dd, dd, dd, dd, dd, dd, dd, dd, dd, dd, dd, dd, dd, dd, dd, dd, dd, dd, dd, dd, dd, dd, dd, dd, dd, dd, dd, dd, dd, dd, dd, dd, dd, dd, dd, dd, dd, dd, dd, dd, dd, dd], [.box ((cS_proc_Table v_b3500).map FV.d), .row 180 5 (v_w3501.map eS_ringref5_Proc), .box [.d (.v (.int .i64 v_y3124.fKind)), .d (.v (.int .i64 v_y3124.fP)), .d (.v (.int .i64 v_y3124.fN))]]⟩
  | .x1 v_ok3615 v_b3616 v_w3617 => ⟨[dd, dd, dd, .ref 0 0, .srf 1, dd, .d (.iptr [.v (.int .i64 v_y3124.fKind), .v (.int .i64 v_y3124.fP), .v (.int .i64 v_y3124.fN)] 0), dd, .d (.v (.bool v_ok3615)), dd, dd, dd, dd, dd, dd, dd, dd, dd, dd, dd, dd, dd, dd, dd, .d (.sl (v_l1.map eS_ringlaw5_Deed)), .d (.v (.int .i64 (v_l1.length : Int))), .d (.v (.int .i64 v_x2593)), dd, dd, dd, dd, dd, dd, dd, dd, dd, dd, dd, dd, dd, dd, dd, dd, dd, dd, dd, dd, dd, dd, dd, dd, dd, dd, dd, dd, dd, dd, dd, dd, dd, dd, dd, dd, dd, dd, dd, dd, dd, dd, dd, dd, dd, dd, dd, dd, dd, dd, dd, dd, dd, dd, dd, dd, dd, dd, dd, dd, dd, dd, dd, dd, dd, dd, dd, dd, dd, dd, dd, dd, dd, dd, dd, dd, dd, dd, dd, dd, dd, dd, dd, dd, dd, dd, dd, dd, dd, dd, dd, dd, dd, dd, dd, dd, dd, dd, dd, dd, dd, dd, dd, dd, dd, dd, dd, dd, dd, dd, dd, dd, dd, dd, dd, dd, dd, dd, dd, dd, dd, dd, dd, dd, dd, dd, dd, dd, dd, dd, dd, dd, dd, dd, dd, dd, dd, dd, dd, dd, dd, dd, dd, dd, dd, dd, dd, dd, dd, dd, dd, dd, dd, dd, dd, dd, dd, dd, dd, dd, dd, dd, dd, dd, dd, dd, dd, dd], [.box ((cS_proc_Table v_b3616).map FV.d), .row 180 5 (v_w3617.map eS_ringref5_Proc)]⟩
  | .x2 v_ok3618 v_w3619 => ⟨[dd, dd, dd, .ref 0 0, .srf 1, dd, .ref 2 0, dd, .d (.v (.bool v_ok3618)), dd, dd, dd, dd, dd, dd, dd, dd, dd, dd, dd, dd, dd, dd, dd, .d (.sl (v_l1.map eS_ringlaw5_Deed)), .d (.v (.int .i64 (v_l1.length : Int))), .d (.v (.int .i64 v_x2593)), dd, dd, dd, dd, dd, dd, dd, dd, dd, dd, dd, dd, dd, dd, dd, dd, dd, dd, dd, dd, dd, dd, dd, dd, dd, dd, dd, dd, dd, dd, dd, dd, dd, dd, dd, dd, dd, dd, dd, dd, dd, dd, dd, dd, dd, dd, dd, dd, dd, dd, dd, dd, dd, dd, dd, dd, dd, dd, dd, dd, dd, dd, dd, dd, dd, dd, dd, dd, dd, dd, dd, dd, dd, dd, dd, dd, dd, dd, dd, dd, dd, dd, dd, dd, dd, dd, dd, dd, dd, dd, dd, dd, dd, dd, dd, dd, dd, dd, dd, dd, dd, dd, dd, dd, dd, dd, dd, dd, dd, dd, dd, dd, dd, dd, dd, dd, dd, dd, dd, dd, dd, dd, dd, dd, dd, dd, dd, dd, dd, dd, dd, dd, dd, dd, dd, dd, dd, dd, dd, dd, dd, dd, dd, dd, dd, dd, dd, dd, dd, dd, dd, dd, dd, dd, dd, dd, dd, dd, dd, dd, dd, dd, dd, dd, dd, dd, dd, dd], [.box ((cS_proc_Table v_b2594).map FV.d), .row 180 5 (v_w3619.map eS_ringref5_Proc), .box [.d (.v (.int .i64 v_y3124.fKind)), .d (.v (.int .i64 v_y3124.fP)), .d (.v (.int .i64 v_y3124.fN))]]⟩
def G_ringlaw5_ProcPlays_C18_hd (v_r3125 : (Int)) (v_l1 : (List S_ringlaw5_Deed)) (v_x2593 : Int) (v_r3126 : (Int)) (v_b2594 : S_proc_Table) (v_w2595 : (List S_ringref5_Proc)) (v_y3124 : S_ringlaw5_Deed)  : PS := ⟨[dd, dd, dd, .ref 0 0, .srf 1, dd, .ref 2 0, .d (.v (.int .i64 v_r3125)), .d (.v (.bool true)), dd, dd, dd, dd, dd, dd, dd, dd, dd, dd, dd, dd, dd, dd, dd, .d (.sl (v_l1.map eS_ringlaw5_Deed)), .d (.v (.int .i64 (v_l1.length : Int))), .d (.v (.int .i64 v_x2593)), dd, dd, dd, dd, dd, dd, dd, dd, dd, .d (.v (.int .i64 v_r3126)), .d (.v (.bool (v_r3126 == 0))), dd, dd, dd, dd, dd, dd, dd, dd, dd, dd, dd, dd, dd, dd, dd, dd, dd, dd, dd, dd, dd, dd, dd, dd, dd, dd, dd, dd, dd, dd, dd, dd, dd, dd, dd, dd, dd, dd, dd, dd, dd, dd, dd, dd, dd, dd, dd, dd, dd, dd, dd, dd, dd, dd, dd, dd, dd, dd, dd, dd, dd, dd, dd, dd, dd, dd, dd, dd, dd, dd, dd, dd, dd, dd, dd, dd, dd, dd, dd, dd, dd, dd, dd, dd, dd, dd, dd, dd, dd, dd, dd, dd, dd, dd, dd, dd, dd, dd, dd, dd, dd, dd, dd, dd, dd, dd, dd, dd, dd, dd, dd, dd, dd, dd, dd, dd, dd, dd, dd, dd, dd, dd, dd, dd, dd, dd, dd, dd, dd, dd, dd, dd, dd, dd, dd, dd, dd, dd, dd, dd, dd, dd, dd, dd, dd, dd, dd, dd, dd, dd, dd, dd, dd, dd, dd, dd, dd], [.box ((cS_proc_Table v_b2594).map FV.d), .row 180 5 (v_w2595.map eS_ringref5_Proc), .box [.d (.v (.int .i64 v_y3124.fKind)), .d (.v (.int .i64 v_y3124.fP)), .d (.v (.int .i64 v_y3124.fN))]]⟩
def G_ringlaw5_ProcPlays_C18 (n : Nat) (v_r3125 : (Int)) (v_l1 : (List S_ringlaw5_Deed)) (v_x2593 : Int) (v_r3126 : (Int)) (v_b2594 : S_proc_Table) (v_w2595 : (List S_ringref5_Proc)) (v_y3124 : S_ringlaw5_Deed) : Option G_ringlaw5_ProcPlays_C18_R :=
  if v_r3126 = 0 then
   (G_proc_Table_Fork_h n v_b2594 v_y3124.fP).bind fun (v_r3483 : (Int × Int × S_proc_Table)) =>
   (G_ringlaw5_ProcPlays_C11 n v_r3125 v_r3483 v_l1 v_x2593 v_w2595 v_y3124).bind fun v_o3495 => match v_o3495 with
   | .x0 v_z3496 v_z3497 v_z3498 =>
     if v_r3483.1 = v_z3497 then
      some (.x0 (v_r3483.2.1 == v_z3496) v_r3483.2.2 v_z3498)
     else
      some (.x0 false v_r3483.2.2 v_z3498)
  else
   if v_r3126 = 1 then
    (G_proc_Table_Exit_h n v_b2594 v_y3124.fP v_y3124.fN).bind fun (v_r3505 : (Int × Int × S_proc_Table)) =>
    if v_r3125 = 0 then
     (G_ringlaw5_ProcPlays_C12 n v_r3125 v_r3505 v_l1 v_x2593 v_y3124 v_w2595).bind fun v_o3517 => match v_o3517 with
     | .x0 v_z3518 v_z3519 v_z3520 =>
       if v_r3505.1 = v_z3519 then
        some (.x0 (v_r3505.2.1 == v_z3518) v_r3505.2.2 v_z3520)
       else
        some (.x0 false v_r3505.2.2 v_z3520)
    else
     if v_r3505.1 = 0 then
      some (.x0 (v_r3505.2.1 == v_r3125) v_r3505.2.2 v_w2595)
     else
      some (.x0 false v_r3505.2.2 v_w2595)
   else
    if v_r3126 = 2 then
     (G_proc_Table_Wait_h n v_b2594 v_y3124.fP).bind fun (v_r3535 : (Int × Int × Int × S_proc_Table)) =>
     if v_r3125 = 0 then
      (G_ringref5_Procs_Waited_h n v_w2595 v_y3124.fP).bind fun (v_r3537 : ((List S_ringref5_Proc) × Int × Int × Int)) =>
      (G_ringlaw5_ProcPlays_C13 n v_r3537 v_r3535 v_l1 v_x2593 v_y3124).bind fun v_o3544 => match v_o3544 with
      | .x0 v_z3545 v_z3546 =>
        some (.x0 v_z3545 v_r3535.2.2.2 v_z3546)
     else
      (G_ringlaw5_ProcPlays_C14 n v_r3125 v_r3535 v_l1 v_x2593 v_w2595 v_y3124).bind fun v_o3556 => match v_o3556 with
      | .x0 v_z3557 v_z3558 =>
        some (.x0 v_z3557 v_r3535.2.2.2 v_z3558)
    else
     if v_r3126 = 3 then
      (G_ringlaw5_ProcPlays_C15 n v_r3125 v_l1 v_x2593 v_b2594 v_w2595 v_y3124).bind fun v_o3568 => match v_o3568 with
      | .x0 v_z3569 v_z3570 =>
        (G_ringlaw5_ProcPlays_C17 n v_r3125 v_l1 v_x2593 v_z3569 v_b2594 v_z3570 v_y3124).bind fun v_o3605 => match v_o3605 with
        | .x0 v_z3606 v_z3607 =>
          (G_proc_Table_Lead_h n v_b2594 v_y3124.fP v_y3124.fN).bind fun (v_r3608 : (Int × S_proc_Table)) =>
          some (.x0 (v_r3608.1 == v_z3606) v_r3608.2 v_z3607)
        | .x1 v_z3612 v_z3613 =>
          (G_proc_Table_Lead_h n v_b2594 v_y3124.fP v_y3124.fN).bind fun (v_r3614 : (Int × S_proc_Table)) =>
          some (.x1 (v_r3614.1 == v_z3612) v_r3614.2 v_z3613)
     else
      some (.x2 true v_w2595)
theorem G_ringlaw5_ProcPlays_C18_ok {Fi : Ex → PS → Prop} (hF : KC 195 Fi) (ks : List Fr) (n : Nat) (v_r3125 : (Int)) (v_l1 : (List S_ringlaw5_Deed)) (v_x2593 : Int) (v_r3126 : (Int)) (v_b2594 : S_proc_Table) (v_w2595 : (List S_ringref5_Proc)) (v_y3124 : S_ringlaw5_Deed)  (o : G_ringlaw5_ProcPlays_C18_R) (h : G_ringlaw5_ProcPlays_C18 n v_r3125 v_l1 v_x2593 v_r3126 v_b2594 v_w2595 v_y3124 = some o) (q : RunE Try.prog 195 Fi ks (G_ringlaw5_ProcPlays_C18_ex o) (G_ringlaw5_ProcPlays_C18_st v_r3125 v_l1 v_x2593 v_r3126 v_b2594 v_w2595 v_y3124 o)) : RunE Try.prog 195 Fi (.s (cR (cB (cR (cL (cR (cR (cR (cB (cL (cR (cR (cP (cB (cR (cL (cR (cR (cR (cR (bodyOf Try.f11)))))))))))))))))))) :: ks) .normal (G_ringlaw5_ProcPlays_C18_hd v_r3125 v_l1 v_x2593 v_r3126 v_b2594 v_w2595 v_y3124) := by
  unfold G_ringlaw5_ProcPlays_C18 at h
  by_cases h2786 : v_r3126 = 0
  · rw [if_pos h2786] at h
    obtain ⟨v_r3483, h2787, h⟩ := bind_some h
    obtain ⟨v_o3495, h2794, h⟩ := bind_some h
    refine pkk_sound TTok mix hF 8 (hs := [.t true, .c, .h [0] [] [.box ((cS_proc_Table v_r3483.2.2).map FV.d)] (.tup [.d (.v (.int .i64 v_r3483.1)), .d (.v (.int .i64 v_r3483.2.1))])]) (ts := []) (s := [0, 1, 2]) (l := [3, 4, 6, 7, 9, 10, 11, 24, 25, 26, 47]) (by kernel_rfl) (by kernel_rfl) (.cons (bt h2786) (.cons (G_proc_Table_Fork_h_ok n v_b2594 v_y3124.fP _ h2787) .nil)) (G_ringlaw5_ProcPlays_C11_ok hF (.s (cR (cR (cR (cT (cR (cB (cR (cL (cR (cR (cR (cB (cL (cR (cR (cP (cB (cR (cL (cR (cR (cR (cR (bodyOf Try.f11)))))))))))))))))))))))) :: ks) n v_r3125 v_r3483 v_l1 v_x2593 v_w2595 v_y3124 _ h2794 ?_)
    cases v_o3495 with
    | x0 v_z3496 v_z3497 v_z3498 =>
      try dsimp only at h
      by_cases h2795 : v_r3483.1 = v_z3497
      · rw [if_pos h2795] at h
        cases h
        exact pkk_sound TTok mix hF 1 (hs := [.t true, .c, .c]) (ts := []) (s := [0, 1, 2]) (l := [3, 4, 6, 8, 24, 25, 26]) (by kernel_rfl) (by kernel_rfl) (.cons (bt h2795) .nil) q
      · rw [if_neg h2795] at h
        cases h
        exact pkk_sound TTok mix hF 1 (hs := [.t false, .c, .c]) (ts := []) (s := [0, 1, 2]) (l := [3, 4, 6, 8, 24, 25, 26]) (by kernel_rfl) (by kernel_rfl) (.cons (bf h2795) .nil) q
  · rw [if_neg h2786] at h
    by_cases h2796 : v_r3126 = 1
    · rw [if_pos h2796] at h
      obtain ⟨v_r3505, h2797, h⟩ := bind_some h
      by_cases h2798 : v_r3125 = 0
      · rw [if_pos h2798] at h
        obtain ⟨v_o3517, h2805, h⟩ := bind_some h
        refine pkk_sound TTok mix hF 11 (hs := [.t false, .t true, .c, .c, .h [0] [] [.box ((cS_proc_Table v_r3505.2.2).map FV.d)] (.tup [.d (.v (.int .i64 v_r3505.1)), .d (.v (.int .i64 v_r3505.2.1))]), .t true, .c, .c, .c]) (ts := []) (s := [0, 1, 2]) (l := [3, 4, 6, 7, 12, 13, 14, 24, 25, 26, 82]) (by kernel_rfl) (by kernel_rfl) (.cons (bf h2786) (.cons (bt h2796) (.cons (G_proc_Table_Exit_h_ok n v_b2594 v_y3124.fP v_y3124.fN _ h2797) (.cons (bt h2798) .nil)))) (G_ringlaw5_ProcPlays_C12_ok hF (.s (cR (cR (cR (cT (cR (cF (cR (cB (cR (cL (cR (cR (cR (cB (cL (cR (cR (cP (cB (cR (cL (cR (cR (cR (cR (bodyOf Try.f11)))))))))))))))))))))))))) :: ks) n v_r3125 v_r3505 v_l1 v_x2593 v_y3124 v_w2595 _ h2805 ?_)
        cases v_o3517 with
        | x0 v_z3518 v_z3519 v_z3520 =>
          try dsimp only at h
          by_cases h2806 : v_r3505.1 = v_z3519
          · rw [if_pos h2806] at h
            cases h
            exact pkk_sound TTok mix hF 1 (hs := [.t true, .c, .c]) (ts := []) (s := [0, 1, 2]) (l := [3, 4, 6, 8, 24, 25, 26]) (by kernel_rfl) (by kernel_rfl) (.cons (bt h2806) .nil) q
          · rw [if_neg h2806] at h
            cases h
            exact pkk_sound TTok mix hF 1 (hs := [.t false, .c, .c]) (ts := []) (s := [0, 1, 2]) (l := [3, 4, 6, 8, 24, 25, 26]) (by kernel_rfl) (by kernel_rfl) (.cons (bf h2806) .nil) q
      · rw [if_neg h2798] at h
        by_cases h2811 : v_r3505.1 = 0
        · rw [if_pos h2811] at h
          cases h
          exact pkk_sound TTok mix hF 17 (hs := [.t false, .t true, .c, .c, .h [0] [] [.box ((cS_proc_Table v_r3505.2.2).map FV.d)] (.tup [.d (.v (.int .i64 v_r3505.1)), .d (.v (.int .i64 v_r3505.2.1))]), .t false, .c, .c, .c, .t false, .t true, .c, .c]) (ts := []) (s := [0, 1, 2]) (l := [3, 4, 6, 8, 24, 25, 26]) (by kernel_rfl) (by kernel_rfl) (.cons (bf h2786) (.cons (bt h2796) (.cons (G_proc_Table_Exit_h_ok n v_b2594 v_y3124.fP v_y3124.fN _ h2797) (.cons (bf h2798) (.cons (bf h2798) (.cons (bt h2811) .nil)))))) q
        · rw [if_neg h2811] at h
          cases h
          exact pkk_sound TTok mix hF 17 (hs := [.t false, .t true, .c, .c, .h [0] [] [.box ((cS_proc_Table v_r3505.2.2).map FV.d)] (.tup [.d (.v (.int .i64 v_r3505.1)), .d (.v (.int .i64 v_r3505.2.1))]), .t false, .c, .c, .c, .t false, .t false, .c, .c]) (ts := []) (s := [0, 1, 2]) (l := [3, 4, 6, 8, 24, 25, 26]) (by kernel_rfl) (by kernel_rfl) (.cons (bf h2786) (.cons (bt h2796) (.cons (G_proc_Table_Exit_h_ok n v_b2594 v_y3124.fP v_y3124.fN _ h2797) (.cons (bf h2798) (.cons (bf h2798) (.cons (bf h2811) .nil)))))) q
    · rw [if_neg h2796] at h
      by_cases h2812 : v_r3126 = 2
      · rw [if_pos h2812] at h
        obtain ⟨v_r3535, h2813, h⟩ := bind_some h
        by_cases h2816 : v_r3125 = 0
        · rw [if_pos h2816] at h
          obtain ⟨v_r3537, h2817, h⟩ := bind_some h
          obtain ⟨v_o3544, h2822, h⟩ := bind_some h
          refine pkk_sound TTok mix hF 16 (hs := [.t false, .t false, .t true, .c, .h [0] [] [.box ((cS_proc_Table v_r3535.2.2.2).map FV.d)] (.tup [.d (.v (.int .i64 v_r3535.1)), .d (.v (.int .i64 v_r3535.2.1)), .d (.v (.int .i64 v_r3535.2.2.1))]), .t true, .c, .h [1] [] [.none, .row 180 5 (v_r3537.1.map eS_ringref5_Proc)] (.tup [.srf 1, .d (.v (.int .i64 v_r3537.2.1)), .d (.v (.int .i64 v_r3537.2.2.1)), .d (.v (.int .i64 v_r3537.2.2.2))])]) (ts := []) (s := [0, 69, 2]) (l := [3, 4, 6, 7, 15, 16, 17, 18, 19, 24, 25, 26]) (by kernel_rfl) (by kernel_rfl) (.cons (bf h2786) (.cons (bf h2796) (.cons (bt h2812) (.cons (G_proc_Table_Wait_h_ok n v_b2594 v_y3124.fP _ h2813) (.cons (bt h2816) (.cons (G_ringref5_Procs_Waited_h_ok n v_w2595 v_y3124.fP _ h2817) .nil)))))) (G_ringlaw5_ProcPlays_C13_ok hF (ks) n v_r3537 v_r3535 v_l1 v_x2593 v_y3124 _ h2822 ?_)
          cases v_o3544 with
          | x0 v_z3545 v_z3546 =>
            try dsimp only at h
            cases h
            exact pkk_sound TTok mix hF 0 (hs := []) (ts := []) (s := [0, 1, 2]) (l := [3, 4, 6, 8, 24, 25, 26]) (by kernel_rfl) (by kernel_rfl) .nil q
        · rw [if_neg h2816] at h
          obtain ⟨v_o3556, h2827, h⟩ := bind_some h
          refine pkk_sound TTok mix hF 16 (hs := [.t false, .t false, .t true, .c, .h [0] [] [.box ((cS_proc_Table v_r3535.2.2.2).map FV.d)] (.tup [.d (.v (.int .i64 v_r3535.1)), .d (.v (.int .i64 v_r3535.2.1)), .d (.v (.int .i64 v_r3535.2.2.1))]), .t false]) (ts := []) (s := [0, 1, 2]) (l := [3, 4, 6, 7, 15, 16, 17, 18, 19, 24, 25, 26]) (by kernel_rfl) (by kernel_rfl) (.cons (bf h2786) (.cons (bf h2796) (.cons (bt h2812) (.cons (G_proc_Table_Wait_h_ok n v_b2594 v_y3124.fP _ h2813) (.cons (bf h2816) .nil))))) (G_ringlaw5_ProcPlays_C14_ok hF (ks) n v_r3125 v_r3535 v_l1 v_x2593 v_w2595 v_y3124 _ h2827 ?_)
          cases v_o3556 with
          | x0 v_z3557 v_z3558 =>
            try dsimp only at h
            cases h
            exact pkk_sound TTok mix hF 0 (hs := []) (ts := []) (s := [0, 1, 2]) (l := [3, 4, 6, 8, 24, 25, 26]) (by kernel_rfl) (by kernel_rfl) .nil q
      · rw [if_neg h2812] at h
        by_cases h2828 : v_r3126 = 3
        · rw [if_pos h2828] at h
          obtain ⟨v_o3568, h2833, h⟩ := bind_some h
          refine pkk_sound TTok mix hF 12 (hs := [.t false, .t false, .t false, .t true]) (ts := []) (s := [0, 1, 2]) (l := [3, 4, 6, 7, 24, 25, 26]) (by kernel_rfl) (by kernel_rfl) (.cons (bf h2786) (.cons (bf h2796) (.cons (bf h2812) (.cons (bt h2828) .nil)))) (G_ringlaw5_ProcPlays_C15_ok hF (.s (cR (cL (cT (cR (cF (cR (cF (cR (cF (cR (cB (cR (cL (cR (cR (cR (cB (cL (cR (cR (cP (cB (cR (cL (cR (cR (cR (cR (bodyOf Try.f11))))))))))))))))))))))))))))) :: .s (cR (cT (cR (cF (cR (cF (cR (cF (cR (cB (cR (cL (cR (cR (cR (cB (cL (cR (cR (cP (cB (cR (cL (cR (cR (cR (cR (bodyOf Try.f11)))))))))))))))))))))))))))) :: ks) n v_r3125 v_l1 v_x2593 v_b2594 v_w2595 v_y3124 _ h2833 ?_)
          cases v_o3568 with
          | x0 v_z3569 v_z3570 =>
            try dsimp only at h
            obtain ⟨v_o3605, h2868, h⟩ := bind_some h
            refine pkk_sound TTok mix hF 0 (hs := []) (ts := []) (s := [0, 1, 2]) (l := [3, 4, 6, 7, 24, 25, 26, 149]) (by kernel_rfl) (by kernel_rfl) .nil (G_ringlaw5_ProcPlays_C17_ok hF (.s (cR (cT (cR (cF (cR (cF (cR (cF (cR (cB (cR (cL (cR (cR (cR (cB (cL (cR (cR (cP (cB (cR (cL (cR (cR (cR (cR (bodyOf Try.f11)))))))))))))))))))))))))))) :: ks) n v_r3125 v_l1 v_x2593 v_z3569 v_b2594 v_z3570 v_y3124 _ h2868 ?_)
            cases v_o3605 with
            | x0 v_z3606 v_z3607 =>
              try dsimp only at h
              obtain ⟨v_r3608, h2869, h⟩ := bind_some h
              cases h
              exact pkk_sound TTok mix hF 1 (hs := [.c, .c, .h [0] [] [.box ((cS_proc_Table v_r3608.2).map FV.d)] (.d (.v (.int .i64 v_r3608.1)))]) (ts := []) (s := [0, 1, 2]) (l := [3, 4, 6, 8, 24, 25, 26]) (by kernel_rfl) (by kernel_rfl) (.cons (G_proc_Table_Lead_h_ok n v_b2594 v_y3124.fP v_y3124.fN _ h2869) .nil) q
            | x1 v_z3612 v_z3613 =>
              try dsimp only at h
              obtain ⟨v_r3614, h2870, h⟩ := bind_some h
              cases h
              exact pkk_sound TTok mix hF 1 (hs := [.c, .c, .h [0] [] [.box ((cS_proc_Table v_r3614.2).map FV.d)] (.d (.v (.int .i64 v_r3614.1)))]) (ts := []) (s := [0, 1]) (l := [3, 4, 6, 8, 24, 25, 26]) (by kernel_rfl) (by kernel_rfl) (.cons (G_proc_Table_Lead_h_ok n v_b2594 v_y3124.fP v_y3124.fN _ h2870) .nil) q
        · rw [if_neg h2828] at h
          cases h
          exact pkk_sound TTok mix hF 11 (hs := [.t false, .t false, .t false, .t false]) (ts := []) (s := [0, 1, 2]) (l := [3, 4, 6, 8, 24, 25, 26]) (by kernel_rfl) (by kernel_rfl) (.cons (bf h2786) (.cons (bf h2796) (.cons (bf h2812) (.cons (bf h2828) .nil)))) q
inductive G_ringlaw5_ProcPlays_C19_R where
  | x0 (v_ok3624 : Bool) (v_b3625 : S_proc_Table) (v_w3626 : (List S_ringref5_Proc))
  | x1 (v_ok3630 : Bool) (v_b3631 : S_proc_Table) (v_w3632 : (List S_ringref5_Proc))
  | x2 (v_ok3635 : Bool) (v_w3636 : (List S_ringref5_Proc))
def G_ringlaw5_ProcPlays_C19_ex : G_ringlaw5_ProcPlays_C19_R → Ex
  | .x0 _ _ _ => .normal
  | .x1 _ _ _ => .normal
  | .x2 _ _ => .normal
def G_ringlaw5_ProcPlays_C19_st (v_r3125 : (Int)) (v_l1 : (List S_ringlaw5_Deed)) (v_x2593 : Int) (v_r3126 : (Int)) (v_b2594 : S_proc_Table) (v_w2595 : (List S_ringref5_Proc)) (v_y3124 : S_ringlaw5_Deed) : G_ringlaw5_ProcPlays_C19_R → PS
  | .x0 v_ok3624 v_b3625 v_w3626 => ⟨[dd, dd, dd, .ref 0 0, .srf 1, dd, .ref 2 0, dd, .d (.v (.bool v_ok3624)), dd, dd, dd, dd, dd, dd, dd, dd, dd, dd, dd, dd, dd, dd, dd, .d (.sl (v_l1.map eS_ringlaw5_Deed)), .d (.v (.int .i64 (v_l1.length : Int))), .d (.v (.int .i64 v_x2593)), dd, dd, dd, dd, dd, dd, dd, dd, dd, dd, dd, dd, dd, dd, dd, dd, dd, dd, dd, dd, dd, dd, dd, dd, dd, dd, dd, dd, dd, dd, dd, dd, dd, dd, dd, dd, dd, dd, dd, dd, dd, dd, dd, dd, dd, dd, dd, dd, dd, dd, dd, dd, dd, dd, dd, dd, dd, dd, dd, dd, dd, dd, dd, dd, dd, dd, dd, dd, dd, dd, dd, dd, dd, dd, dd, dd, dd, dd, dd, dd, dd, dd, dd, dd, dd, dd, dd, dd, dd, dd, dd, dd, dd, dd, dd, dd, dd, dd, dd, dd, dd, dd, dd, dd, dd, dd, dd, dd, dd, dd, dd, dd, dd, dd, dd, dd, dd, dd, dd, dd, dd, dd, dd, dd, dd, dd, dd, dd, dd, dd, dd, dd, dd, dd, dd, dd, dd, dd, dd, dd, dd, dd, dd, dd, dd, dd, dd, dd, dd, dd, dd, dd, dd, dd, dd, dd, dd, dd, dd, dd, dd, dd, dd, dd, dd, dd, dd, dd], [.box ((cS_proc_Table v_b3625).map FV.d), .row 180 5 (v_w3626.map eS_ringref5_Proc), .box [.d (.v (.int .i64 v_y3124.fKind)), .d (.v (.int .i64 v_y3124.fP)), .d (.v (.int .i64 v_y3124.fN))]]⟩
  | .x1 v_ok3630 v_b3631 v_w3632 => ⟨[dd, dd, dd, .ref 0 0, .srf 1, dd, .d (.iptr [.v (.int .i64 v_y3124.fKind), .v (.int .i64 v_y3124.fP), .v (.int .i64 v_y3124.fN)] 0), dd, .d (.v (.bool v_ok3630)), dd, dd, dd, dd, dd, dd, dd, dd, dd, dd, dd, dd, dd, dd, dd, .d (.sl (v_l1.map eS_ringlaw5_Deed)), .d (.v (.int .i64 (v_l1.length : Int))), .d (.v (.int .i64 v_x2593)), dd, dd, dd, dd, dd, dd, dd, dd, dd, dd, dd, dd, dd, dd, dd, dd, dd, dd, dd, dd, dd, dd, dd, dd, dd, dd, dd, dd, dd, dd, dd, dd, dd, dd, dd, dd, dd, dd, dd, dd, dd, dd, dd, dd, dd, dd, dd, dd, dd, dd, dd, dd, dd, dd, dd, dd, dd, dd, dd, dd, dd, dd, dd, dd, dd, dd, dd, dd, dd, dd, dd, dd, dd, dd, dd, dd, dd, dd, dd, dd, dd, dd, dd, dd, dd, dd, dd, dd, dd, dd, dd, dd, dd, dd, dd, dd, dd, dd, dd, dd, dd, dd, dd, dd, dd, dd, dd, dd, dd, dd, dd, dd, dd, dd, dd, dd, dd, dd, dd, dd, dd, dd, dd, dd, dd, dd, dd, dd, dd, dd, dd, dd, dd, dd, dd, dd, dd, dd, dd, dd, dd, dd, dd, dd, dd, dd, dd, dd, dd, dd, dd, dd, dd, dd, dd, dd, dd, dd, dd, dd, dd, dd, dd, dd, dd, dd, dd, dd], [.box ((cS_proc_Table v_b3631).map FV.d), .row 180 5 (v_w3632.map eS_ringref5_Proc)]⟩
  | .x2 v_ok3635 v_w3636 => ⟨[dd, dd, dd, .ref 0 0, .srf 1, dd, .ref 2 0, dd, .d (.v (.bool v_ok3635)), dd, dd, dd, dd, dd, dd, dd, dd, dd, dd, dd, dd, dd, dd, dd, .d (.sl (v_l1.map eS_ringlaw5_Deed)), .d (.v (.int .i64 (v_l1.length : Int))), .d (.v (.int .i64 v_x2593)), dd, dd, dd, dd, dd, dd, dd, dd, dd, dd, dd, dd, dd, dd, dd, dd, dd, dd, dd, dd, dd, dd, dd, dd, dd, dd, dd, dd, dd, dd, dd, dd, dd, dd, dd, dd, dd, dd, dd, dd, dd, dd, dd, dd, dd, dd, dd, dd, dd, dd, dd, dd, dd, dd, dd, dd, dd, dd, dd, dd, dd, dd, dd, dd, dd, dd, dd, dd, dd, dd, dd, dd, dd, dd, dd, dd, dd, dd, dd, dd, dd, dd, dd, dd, dd, dd, dd, dd, dd, dd, dd, dd, dd, dd, dd, dd, dd, dd, dd, dd, dd, dd, dd, dd, dd, dd, dd, dd, dd, dd, dd, dd, dd, dd, dd, dd, dd, dd, dd, dd, dd, dd, dd, dd, dd, dd, dd, dd, dd, dd, dd, dd, dd, dd, dd, dd, dd, dd, dd, dd, dd, dd, dd, dd, dd, dd, dd, dd, dd, dd, dd, dd, dd, dd, dd, dd, dd, dd, dd, dd, dd, dd, dd, dd, dd, dd, dd, dd], [.box ((cS_proc_Table v_b2594).map FV.d), .row 180 5 (v_w3636.map eS_ringref5_Proc), .box [.d (.v (.int .i64 v_y3124.fKind)), .d (.v (.int .i64 v_y3124.fP)), .d (.v (.int .i64 v_y3124.fN))]]⟩
def G_ringlaw5_ProcPlays_C19_hd (v_r3125 : (Int)) (v_l1 : (List S_ringlaw5_Deed)) (v_x2593 : Int) (v_r3126 : (Int)) (v_b2594 : S_proc_Table) (v_w2595 : (List S_ringref5_Proc)) (v_y3124 : S_ringlaw5_Deed)  : PS := ⟨[dd, dd, dd, .ref 0 0, .srf 1, dd, .ref 2 0, .d (.v (.int .i64 v_r3125)), .d (.v (.bool true)), dd, dd, dd, dd, dd, dd, dd, dd, dd, dd, dd, dd, dd, dd, dd, .d (.sl (v_l1.map eS_ringlaw5_Deed)), .d (.v (.int .i64 (v_l1.length : Int))), .d (.v (.int .i64 v_x2593)), dd, dd, dd, dd, dd, dd, dd, dd, dd, .d (.v (.int .i64 v_r3126)), dd, dd, dd, dd, dd, dd, dd, dd, dd, dd, dd, dd, dd, dd, dd, dd, dd, dd, dd, dd, dd, dd, dd, dd, dd, dd, dd, dd, dd, dd, dd, dd, dd, dd, dd, dd, dd, dd, dd, dd, dd, dd, dd, dd, dd, dd, dd, dd, dd, dd, dd, dd, dd, dd, dd, dd, dd, dd, dd, dd, dd, dd, dd, dd, dd, dd, dd, dd, dd, dd, dd, dd, dd, dd, dd, dd, dd, dd, dd, dd, dd, dd, dd, dd, dd, dd, dd, dd, dd, dd, dd, dd, dd, dd, dd, dd, dd, dd, dd, dd, dd, dd, dd, dd, dd, dd, dd, dd, dd, dd, dd, dd, dd, dd, dd, dd, dd, dd, dd, dd, dd, dd, dd, dd, dd, dd, dd, dd, dd, dd, dd, dd, dd, dd, dd, dd, dd, dd, dd, dd, dd, dd, dd, dd, dd, dd, dd, dd, dd, dd, dd, dd, dd, dd, dd, dd, dd, dd], [.box ((cS_proc_Table v_b2594).map FV.d), .row 180 5 (v_w2595.map eS_ringref5_Proc), .box [.d (.v (.int .i64 v_y3124.fKind)), .d (.v (.int .i64 v_y3124.fP)), .d (.v (.int .i64 v_y3124.fN))]]⟩
def G_ringlaw5_ProcPlays_C19 (n : Nat) (v_r3125 : (Int)) (v_l1 : (List S_ringlaw5_Deed)) (v_x2593 : Int) (v_r3126 : (Int)) (v_b2594 : S_proc_Table) (v_w2595 : (List S_ringref5_Proc)) (v_y3124 : S_ringlaw5_Deed) : Option G_ringlaw5_ProcPlays_C19_R :=
  (G_ringlaw5_ProcPlays_C18 n v_r3125 v_l1 v_x2593 v_r3126 v_b2594 v_w2595 v_y3124).bind fun v_o3620 => match v_o3620 with
  | .x0 v_z3621 v_z3622 v_z3623 =>
    some (.x0 v_z3621 v_z3622 v_z3623)
  | .x1 v_z3627 v_z3628 v_z3629 =>
    some (.x1 v_z3627 v_z3628 v_z3629)
  | .x2 v_z3633 v_z3634 =>
    some (.x2 v_z3633 v_z3634)
theorem G_ringlaw5_ProcPlays_C19_ok {Fi : Ex → PS → Prop} (hF : KC 195 Fi) (ks : List Fr) (n : Nat) (v_r3125 : (Int)) (v_l1 : (List S_ringlaw5_Deed)) (v_x2593 : Int) (v_r3126 : (Int)) (v_b2594 : S_proc_Table) (v_w2595 : (List S_ringref5_Proc)) (v_y3124 : S_ringlaw5_Deed)  (o : G_ringlaw5_ProcPlays_C19_R) (h : G_ringlaw5_ProcPlays_C19 n v_r3125 v_l1 v_x2593 v_r3126 v_b2594 v_w2595 v_y3124 = some o) (q : RunE Try.prog 195 Fi ks (G_ringlaw5_ProcPlays_C19_ex o) (G_ringlaw5_ProcPlays_C19_st v_r3125 v_l1 v_x2593 v_r3126 v_b2594 v_w2595 v_y3124 o)) : RunE Try.prog 195 Fi (.s (cR (cL (cR (cR (cR (cB (cL (cR (cR (cP (cB (cR (cL (cR (cR (cR (cR (bodyOf Try.f11)))))))))))))))))) :: ks) .normal (G_ringlaw5_ProcPlays_C19_hd v_r3125 v_l1 v_x2593 v_r3126 v_b2594 v_w2595 v_y3124) := by
  unfold G_ringlaw5_ProcPlays_C19 at h
  obtain ⟨v_o3620, h2871, h⟩ := bind_some h
  refine pkk_sound TTok mix hF 3 (hs := []) (ts := []) (s := [0, 1, 2]) (l := [3, 4, 6, 7, 8, 24, 25, 26, 36, 37]) (by kernel_rfl) (by kernel_rfl) .nil (G_ringlaw5_ProcPlays_C18_ok hF (.b 2 :: ks) n v_r3125 v_l1 v_x2593 v_r3126 v_b2594 v_w2595 v_y3124 _ h2871 ?_)
  cases v_o3620 with
  | x0 v_z3621 v_z3622 v_z3623 =>
    try dsimp only at h
    cases h
    exact pkk_sound TTok mix hF 1 (hs := []) (ts := []) (s := [0, 1, 2]) (l := [3, 4, 6, 8, 24, 25, 26]) (by kernel_rfl) (by kernel_rfl) .nil q
  | x1 v_z3627 v_z3628 v_z3629 =>
    try dsimp only at h
    cases h
    exact pkk_sound TTok mix hF 1 (hs := []) (ts := []) (s := [0, 1]) (l := [3, 4, 6, 8, 24, 25, 26]) (by kernel_rfl) (by kernel_rfl) .nil q
  | x2 v_z3633 v_z3634 =>
    try dsimp only at h
    cases h
    exact pkk_sound TTok mix hF 1 (hs := []) (ts := []) (s := [0, 1, 2]) (l := [3, 4, 6, 8, 24, 25, 26]) (by kernel_rfl) (by kernel_rfl) .nil q
inductive G_ringlaw5_ProcPlays_C20_R where
  | x0 (v_x3642 : Bool)
  | x1 (v_b3645 : S_proc_Table) (v_w3646 : (List S_ringref5_Proc))
def G_ringlaw5_ProcPlays_C20_ex : G_ringlaw5_ProcPlays_C20_R → Ex
  | .x0 _ => .ret
  | .x1 _ _ => .normal
def G_ringlaw5_ProcPlays_C20_st (v_l1 : (List S_ringlaw5_Deed)) (v_x2593 : Int) (v_b2594 : S_proc_Table) (v_w2595 : (List S_ringref5_Proc)) : G_ringlaw5_ProcPlays_C20_R → PS
  | .x0 v_x3642 => ⟨[dd, dd, .d (.v (.bool v_x3642)), dd, dd, dd, dd, dd, dd, dd, dd, dd, dd, dd, dd, dd, dd, dd, dd, dd, dd, dd, dd, dd, dd, dd, dd, dd, dd, dd, dd, dd, dd, dd, dd, dd, dd, dd, dd, dd, dd, dd, dd, dd, dd, dd, dd, dd, dd, dd, dd, dd, dd, dd, dd, dd, dd, dd, dd, dd, dd, dd, dd, dd, dd, dd, dd, dd, dd, dd, dd, dd, dd, dd, dd, dd, dd, dd, dd, dd, dd, dd, dd, dd, dd, dd, dd, dd, dd, dd, dd, dd, dd, dd, dd, dd, dd, dd, dd, dd, dd, dd, dd, dd, dd, dd, dd, dd, dd, dd, dd, dd, dd, dd, dd, dd, dd, dd, dd, dd, dd, dd, dd, dd, dd, dd, dd, dd, dd, dd, dd, dd, dd, dd, dd, dd, dd, dd, dd, dd, dd, dd, dd, dd, dd, dd, dd, dd, dd, dd, dd, dd, dd, dd, dd, dd, dd, dd, dd, dd, dd, dd, dd, dd, dd, dd, dd, dd, dd, dd, dd, dd, dd, dd, dd, dd, dd, dd, dd, dd, dd, dd, dd, dd, dd, dd, dd, dd, dd, dd, dd, dd, dd, dd, dd], []⟩
  | .x1 v_b3645 v_w3646 => ⟨[dd, dd, dd, .ref 0 0, .srf 1, dd, dd, dd, dd, dd, dd, dd, dd, dd, dd, dd, dd, dd, dd, dd, dd, dd, dd, dd, .d (.sl (v_l1.map eS_ringlaw5_Deed)), .d (.v (.int .i64 (v_l1.length : Int))), .d (.v (.int .i64 v_x2593)), dd, dd, dd, dd, dd, dd, dd, dd, dd, dd, dd, dd, dd, dd, dd, dd, dd, dd, dd, dd, dd, dd, dd, dd, dd, dd, dd, dd, dd, dd, dd, dd, dd, dd, dd, dd, dd, dd, dd, dd, dd, dd, dd, dd, dd, dd, dd, dd, dd, dd, dd, dd, dd, dd, dd, dd, dd, dd, dd, dd, dd, dd, dd, dd, dd, dd, dd, dd, dd, dd, dd, dd, dd, dd, dd, dd, dd, dd, dd, dd, dd, dd, dd, dd, dd, dd, dd, dd, dd, dd, dd, dd, dd, dd, dd, dd, dd, dd, dd, dd, dd, dd, dd, dd, dd, dd, dd, dd, dd, dd, dd, dd, dd, dd, dd, dd, dd, dd, dd, dd, dd, dd, dd, dd, dd, dd, dd, dd, dd, dd, dd, dd, dd, dd, dd, dd, dd, dd, dd, dd, dd, dd, dd, dd, dd, dd, dd, dd, dd, dd, dd, dd, dd, dd, dd, dd, dd, dd, dd, dd, dd, dd, dd, dd, dd, dd, dd, dd], [.box ((cS_proc_Table v_b3645).map FV.d), .row 180 5 (v_w3646.map eS_ringref5_Proc)]⟩
def G_ringlaw5_ProcPlays_C20_hd (v_l1 : (List S_ringlaw5_Deed)) (v_x2593 : Int) (v_b2594 : S_proc_Table) (v_w2595 : (List S_ringref5_Proc))  : PS := ⟨[dd, dd, dd, .ref 0 0, .srf 1, dd, dd, dd, dd, dd, dd, dd, dd, dd, dd, dd, dd, dd, dd, dd, dd, dd, dd, dd, .d (.sl (v_l1.map eS_ringlaw5_Deed)), .d (.v (.int .i64 (v_l1.length : Int))), .d (.v (.int .i64 v_x2593)), dd, dd, dd, dd, dd, dd, dd, dd, dd, dd, dd, dd, dd, dd, dd, dd, dd, dd, dd, dd, dd, dd, dd, dd, dd, dd, dd, dd, dd, dd, dd, dd, dd, dd, dd, dd, dd, dd, dd, dd, dd, dd, dd, dd, dd, dd, dd, dd, dd, dd, dd, dd, dd, dd, dd, dd, dd, dd, dd, dd, dd, dd, dd, dd, dd, dd, dd, dd, dd, dd, dd, dd, dd, dd, dd, dd, dd, dd, dd, dd, dd, dd, dd, dd, dd, dd, dd, dd, dd, dd, dd, dd, dd, dd, dd, dd, dd, dd, dd, dd, dd, dd, dd, dd, dd, dd, dd, dd, dd, dd, dd, dd, dd, dd, dd, dd, dd, dd, dd, dd, dd, dd, dd, dd, dd, dd, dd, dd, dd, dd, dd, dd, dd, dd, dd, dd, dd, dd, dd, dd, dd, dd, dd, dd, dd, dd, dd, dd, dd, dd, dd, dd, dd, dd, dd, dd, dd, dd, dd, dd, dd, dd, dd, dd, dd, dd, dd, dd], [.box ((cS_proc_Table v_b2594).map FV.d), .row 180 5 (v_w2595.map eS_ringref5_Proc)]⟩
def G_ringlaw5_ProcPlays_C20 (n : Nat) (v_l1 : (List S_ringlaw5_Deed)) (v_x2593 : Int) (v_b2594 : S_proc_Table) (v_w2595 : (List S_ringref5_Proc)) : Option G_ringlaw5_ProcPlays_C20_R :=
  (getI v_l1 v_x2593).bind fun (v_y3124 : S_ringlaw5_Deed) =>
  (G_ringref5_Procs_Err n v_w2595 v_y3124.fP).bind fun (v_r3125 : (Int)) =>
  (G_ringref5_Rest n v_y3124.fKind 5).bind fun (v_r3126 : (Int)) =>
  (G_ringlaw5_ProcPlays_C19 n v_r3125 v_l1 v_x2593 v_r3126 v_b2594 v_w2595 v_y3124).bind fun v_o3637 => match v_o3637 with
  | .x0 v_z3638 v_z3639 v_z3640 =>
    if v_z3638 = true then
     (G_ringlaw5_asked_h n v_z3639 v_z3640 v_y3124).bind fun (v_r3643 : (Bool × S_proc_Table × (List S_ringref5_Proc))) =>
     if v_r3643.1 = true then
      some (.x1 v_r3643.2.1 v_r3643.2.2)
     else
      some (.x0 false)
    else
     some (.x0 false)
  | .x1 v_z3647 v_z3648 v_z3649 =>
    if v_z3647 = true then
     (G_ringlaw5_asked_h n v_z3648 v_z3649 v_y3124).bind fun (v_r3652 : (Bool × S_proc_Table × (List S_ringref5_Proc))) =>
     if v_r3652.1 = true then
      some (.x1 v_r3652.2.1 v_r3652.2.2)
     else
      some (.x0 false)
    else
     some (.x0 false)
  | .x2 v_z3656 v_z3657 =>
    if v_z3656 = true then
     (G_ringlaw5_asked_h n v_b2594 v_z3657 v_y3124).bind fun (v_r3660 : (Bool × S_proc_Table × (List S_ringref5_Proc))) =>
     if v_r3660.1 = true then
      some (.x1 v_r3660.2.1 v_r3660.2.2)
     else
      some (.x0 false)
    else
     some (.x0 false)
theorem G_ringlaw5_ProcPlays_C20_ok {Fi : Ex → PS → Prop} (hF : KC 195 Fi) (ks : List Fr) (n : Nat) (v_l1 : (List S_ringlaw5_Deed)) (v_x2593 : Int) (v_b2594 : S_proc_Table) (v_w2595 : (List S_ringref5_Proc))  (o : G_ringlaw5_ProcPlays_C20_R) (h : G_ringlaw5_ProcPlays_C20 n v_l1 v_x2593 v_b2594 v_w2595 = some o) (q : RunE Try.prog 195 Fi ks (G_ringlaw5_ProcPlays_C20_ex o) (G_ringlaw5_ProcPlays_C20_st v_l1 v_x2593 v_b2594 v_w2595 o)) : RunE Try.prog 195 Fi (.s (cL (cR (cR (cP (cB (cR (cL (cR (cR (cR (cR (bodyOf Try.f11)))))))))))) :: ks) .normal (G_ringlaw5_ProcPlays_C20_hd v_l1 v_x2593 v_b2594 v_w2595) := by
  unfold G_ringlaw5_ProcPlays_C20 at h
  obtain ⟨v_y3124, h2527, h⟩ := bind_some h
  obtain ⟨v_r3125, h2528, h⟩ := bind_some h
  obtain ⟨v_r3126, h2529, h⟩ := bind_some h
  obtain ⟨v_o3637, h2872, h⟩ := bind_some h
  refine pkk_sound TTok mix hF 10 (hs := [.y (eS_ringlaw5_Deed v_y3124), .c, .c, .c, .r ((eI .i64) v_r3125), .c, .r ((eI .i64) v_r3126)]) (ts := []) (s := [0, 1, 8]) (l := [3, 4, 6, 7, 8, 24, 25, 26, 36]) (by kernel_rfl) (by kernel_rfl) (.cons (getI_ob (f := eS_ringlaw5_Deed) h2527) (.cons (show 0 + 3 ≤ 3 by decide) (.cons (G_ringref5_Procs_Err_ok n v_w2595 v_y3124.fP _ h2528) (.cons (G_ringref5_Rest_ok n v_y3124.fKind 5 _ h2529) .nil)))) (G_ringlaw5_ProcPlays_C19_ok hF (.s (cR (cR (cR (cR (cB (cL (cR (cR (cP (cB (cR (cL (cR (cR (cR (cR (bodyOf Try.f11))))))))))))))))) :: .b 1 :: ks) n v_r3125 v_l1 v_x2593 v_r3126 v_b2594 v_w2595 v_y3124 _ h2872 ?_)
  cases v_o3637 with
  | x0 v_z3638 v_z3639 v_z3640 =>
    try dsimp only at h
    by_cases h2875 : v_z3638 = true
    · rw [if_pos h2875] at h
      obtain ⟨v_r3643, h2876, h⟩ := bind_some h
      by_cases h2877 : v_r3643.1 = true
      · rw [if_pos h2877] at h
        cases h
        exact pkk_sound TTok mix hF 5 (hs := [.t false, .c, .c, .c, .c, .h [0, 1] [] [.box ((cS_proc_Table v_r3643.2.1).map FV.d), .row 180 5 (v_r3643.2.2.map eS_ringref5_Proc)] (.d (.v (.bool v_r3643.1))), .c, .t false]) (ts := []) (s := [0, 1]) (l := [3, 4, 24, 25, 26]) (by kernel_rfl) (by kernel_rfl) (.cons (bnf h2875) (.cons (G_ringlaw5_asked_h_ok n v_z3639 v_z3640 v_y3124 _ h2876) (.cons (bnf h2877) .nil))) q
      · rw [if_neg h2877] at h
        cases h
        exact pkk_sound TTok mix hF 7 (hs := [.t false, .c, .c, .c, .c, .h [0, 1] [] [.box ((cS_proc_Table v_r3643.2.1).map FV.d), .row 180 5 (v_r3643.2.2.map eS_ringref5_Proc)] (.d (.v (.bool v_r3643.1))), .c, .t true]) (ts := []) (s := []) (l := [2]) (by kernel_rfl) (by kernel_rfl) (.cons (bnf h2875) (.cons (G_ringlaw5_asked_h_ok n v_z3639 v_z3640 v_y3124 _ h2876) (.cons (bnt (vf h2877)) .nil))) q
    · rw [if_neg h2875] at h
      cases h
      exact pkk_sound TTok mix hF 7 (hs := [.t true, .c, .c, .c, .c, .c]) (ts := []) (s := []) (l := [2]) (by kernel_rfl) (by kernel_rfl) (.cons (bnt (vf h2875)) .nil) q
  | x1 v_z3647 v_z3648 v_z3649 =>
    try dsimp only at h
    by_cases h2880 : v_z3647 = true
    · rw [if_pos h2880] at h
      obtain ⟨v_r3652, h2881, h⟩ := bind_some h
      by_cases h2882 : v_r3652.1 = true
      · rw [if_pos h2882] at h
        cases h
        exact pkk_sound TTok mix hF 5 (hs := [.t false, .c, .c, .c, .h [0, 1] [] [.box ((cS_proc_Table v_r3652.2.1).map FV.d), .row 180 5 (v_r3652.2.2.map eS_ringref5_Proc)] (.d (.v (.bool v_r3652.1))), .c, .t false]) (ts := []) (s := [0, 1]) (l := [3, 4, 24, 25, 26]) (by kernel_rfl) (by kernel_rfl) (.cons (bnf h2880) (.cons (G_ringlaw5_asked_h_ok n v_z3648 v_z3649 v_y3124 _ h2881) (.cons (bnf h2882) .nil))) q
      · rw [if_neg h2882] at h
        cases h
        exact pkk_sound TTok mix hF 7 (hs := [.t false, .c, .c, .c, .h [0, 1] [] [.box ((cS_proc_Table v_r3652.2.1).map FV.d), .row 180 5 (v_r3652.2.2.map eS_ringref5_Proc)] (.d (.v (.bool v_r3652.1))), .c, .t true]) (ts := []) (s := []) (l := [2]) (by kernel_rfl) (by kernel_rfl) (.cons (bnf h2880) (.cons (G_ringlaw5_asked_h_ok n v_z3648 v_z3649 v_y3124 _ h2881) (.cons (bnt (vf h2882)) .nil))) q
    · rw [if_neg h2880] at h
      cases h
      exact pkk_sound TTok mix hF 7 (hs := [.t true, .c, .c, .c, .c, .c]) (ts := []) (s := []) (l := [2]) (by kernel_rfl) (by kernel_rfl) (.cons (bnt (vf h2880)) .nil) q
  | x2 v_z3656 v_z3657 =>
    try dsimp only at h
    by_cases h2885 : v_z3656 = true
    · rw [if_pos h2885] at h
      obtain ⟨v_r3660, h2886, h⟩ := bind_some h
      by_cases h2887 : v_r3660.1 = true
      · rw [if_pos h2887] at h
        cases h
        exact pkk_sound TTok mix hF 5 (hs := [.t false, .c, .c, .c, .c, .h [0, 1] [] [.box ((cS_proc_Table v_r3660.2.1).map FV.d), .row 180 5 (v_r3660.2.2.map eS_ringref5_Proc)] (.d (.v (.bool v_r3660.1))), .c, .t false]) (ts := []) (s := [0, 1]) (l := [3, 4, 24, 25, 26]) (by kernel_rfl) (by kernel_rfl) (.cons (bnf h2885) (.cons (G_ringlaw5_asked_h_ok n v_b2594 v_z3657 v_y3124 _ h2886) (.cons (bnf h2887) .nil))) q
      · rw [if_neg h2887] at h
        cases h
        exact pkk_sound TTok mix hF 7 (hs := [.t false, .c, .c, .c, .c, .h [0, 1] [] [.box ((cS_proc_Table v_r3660.2.1).map FV.d), .row 180 5 (v_r3660.2.2.map eS_ringref5_Proc)] (.d (.v (.bool v_r3660.1))), .c, .t true]) (ts := []) (s := []) (l := [2]) (by kernel_rfl) (by kernel_rfl) (.cons (bnf h2885) (.cons (G_ringlaw5_asked_h_ok n v_b2594 v_z3657 v_y3124 _ h2886) (.cons (bnt (vf h2887)) .nil))) q
    · rw [if_neg h2885] at h
      cases h
      exact pkk_sound TTok mix hF 7 (hs := [.t true, .c, .c, .c, .c, .c]) (ts := []) (s := []) (l := [2]) (by kernel_rfl) (by kernel_rfl) (.cons (bnt (vf h2885)) .nil) q
inductive G_ringlaw5_ProcPlays_L21_R where
  | x0 (v_x3666 : Bool)
  | x1 
def G_ringlaw5_ProcPlays_L21_ex : G_ringlaw5_ProcPlays_L21_R → Ex
  | .x0 _ => .ret
  | .x1  => .exit 0
def G_ringlaw5_ProcPlays_L21_st (v_l1 : (List S_ringlaw5_Deed)) : G_ringlaw5_ProcPlays_L21_R → PS
  | .x0 v_x3666 => ⟨[dd, dd, .d (.v (.bool v_x3666)), dd, dd, dd, dd, dd, dd, dd, dd, dd, dd, dd, dd, dd, dd, dd, dd, dd, dd, dd, dd, dd, dd, dd, dd, dd, dd, dd, dd, dd, dd, dd, dd, dd, dd, dd, dd, dd, dd, dd, dd, dd, dd, dd, dd, dd, dd, dd, dd, dd, dd, dd, dd, dd, dd, dd, dd, dd, dd, dd, dd, dd, dd, dd, dd, dd, dd, dd, dd, dd, dd, dd, dd, dd, dd, dd, dd, dd, dd, dd, dd, dd, dd, dd, dd, dd, dd, dd, dd, dd, dd, dd, dd, dd, dd, dd, dd, dd, dd, dd, dd, dd, dd, dd, dd, dd, dd, dd, dd, dd, dd, dd, dd, dd, dd, dd, dd, dd, dd, dd, dd, dd, dd, dd, dd, dd, dd, dd, dd, dd, dd, dd, dd, dd, dd, dd, dd, dd, dd, dd, dd, dd, dd, dd, dd, dd, dd, dd, dd, dd, dd, dd, dd, dd, dd, dd, dd, dd, dd, dd, dd, dd, dd, dd, dd, dd, dd, dd, dd, dd, dd, dd, dd, dd, dd, dd, dd, dd, dd, dd, dd, dd, dd, dd, dd, dd, dd, dd, dd, dd, dd, dd, dd], []⟩
  | .x1  => ⟨[dd, dd, dd, dd, dd, dd, dd, dd, dd, dd, dd, dd, dd, dd, dd, dd, dd, dd, dd, dd, dd, dd, dd, dd, dd, dd, dd, dd, dd, dd, dd, dd, dd, dd, dd, dd, dd, dd, dd, dd, dd, dd, dd, dd, dd, dd, dd, dd, dd, dd, dd, dd, dd, dd, dd, dd, dd, dd, dd, dd, dd, dd, dd, dd, dd, dd, dd, dd, dd, dd, dd, dd, dd, dd, dd, dd, dd, dd, dd, dd, dd, dd, dd, dd, dd, dd, dd, dd, dd, dd, dd, dd, dd, dd, dd, dd, dd, dd, dd, dd, dd, dd, dd, dd, dd, dd, dd, dd, dd, dd, dd, dd, dd, dd, dd, dd, dd, dd, dd, dd, dd, dd, dd, dd, dd, dd, dd, dd, dd, dd, dd, dd, dd, dd, dd, dd, dd, dd, dd, dd, dd, dd, dd, dd, dd, dd, dd, dd, dd, dd, dd, dd, dd, dd, dd, dd, dd, dd, dd, dd, dd, dd, dd, dd, dd, dd, dd, dd, dd, dd, dd, dd, dd, dd, dd, dd, dd, dd, dd, dd, dd, dd, dd, dd, dd, dd, dd, dd, dd, dd, dd, dd, dd, dd, dd], []⟩
def G_ringlaw5_ProcPlays_L21_hd (v_l1 : (List S_ringlaw5_Deed)) (v_x2593 : Int) (v_b2594 : S_proc_Table) (v_w2595 : (List S_ringref5_Proc)) : PS := ⟨[dd, dd, dd, .ref 0 0, .srf 1, dd, dd, dd, dd, dd, dd, dd, dd, dd, dd, dd, dd, dd, dd, dd, dd, dd, dd, dd, .d (.sl (v_l1.map eS_ringlaw5_Deed)), .d (.v (.int .i64 (v_l1.length : Int))), .d (.v (.int .i64 v_x2593)), dd, dd, dd, dd, dd, dd, dd, dd, dd, dd, dd, dd, dd, dd, dd, dd, dd, dd, dd, dd, dd, dd, dd, dd, dd, dd, dd, dd, dd, dd, dd, dd, dd, dd, dd, dd, dd, dd, dd, dd, dd, dd, dd, dd, dd, dd, dd, dd, dd, dd, dd, dd, dd, dd, dd, dd, dd, dd, dd, dd, dd, dd, dd, dd, dd, dd, dd, dd, dd, dd, dd, dd, dd, dd, dd, dd, dd, dd, dd, dd, dd, dd, dd, dd, dd, dd, dd, dd, dd, dd, dd, dd, dd, dd, dd, dd, dd, dd, dd, dd, dd, dd, dd, dd, dd, dd, dd, dd, dd, dd, dd, dd, dd, dd, dd, dd, dd, dd, dd, dd, dd, dd, dd, dd, dd, dd, dd, dd, dd, dd, dd, dd, dd, dd, dd, dd, dd, dd, dd, dd, dd, dd, dd, dd, dd, dd, dd, dd, dd, dd, dd, dd, dd, dd, dd, dd, dd, dd, dd, dd, dd, dd, dd, dd, dd, dd, dd, dd], [.box ((cS_proc_Table v_b2594).map FV.d), .row 180 5 (v_w2595.map eS_ringref5_Proc)]⟩
def G_ringlaw5_ProcPlays_L21 (n : Nat) (v_l1 : (List S_ringlaw5_Deed)) : Nat → Int → S_proc_Table → (List S_ringref5_Proc) → Option G_ringlaw5_ProcPlays_L21_R
  | 0, _, _, _ => none
  | k + 1, v_x2593, v_b2594, v_w2595 =>
    if v_x2593 < (v_l1.length : Int) then
     (G_ringlaw5_ProcPlays_C20 n v_l1 v_x2593 v_b2594 v_w2595).bind fun v_o3664 => match v_o3664 with
     | .x0 v_z3665 =>
       some (.x0 v_z3665)
     | .x1 v_z3667 v_z3668 =>
       G_ringlaw5_ProcPlays_L21 n v_l1 k (wi .i64 (v_x2593 + 1)) v_z3667 v_z3668
    else
     some (.x1 )
theorem G_ringlaw5_ProcPlays_L21_ok {Fi : Ex → PS → Prop} (hF : KC 195 Fi) (ks : List Fr) (n : Nat) (v_l1 : (List S_ringlaw5_Deed))  : ∀ (k : Nat) (v_x2593 : Int) (v_b2594 : S_proc_Table) (v_w2595 : (List S_ringref5_Proc)) (o : G_ringlaw5_ProcPlays_L21_R), G_ringlaw5_ProcPlays_L21 n v_l1 k v_x2593 v_b2594 v_w2595 = some o → RunE Try.prog 195 Fi ks (G_ringlaw5_ProcPlays_L21_ex o) (G_ringlaw5_ProcPlays_L21_st v_l1 o) → RunE Try.prog 195 Fi (.l k (cP (cB (cR (cL (cR (cR (cR (cR (bodyOf Try.f11))))))))) :: ks) .normal (G_ringlaw5_ProcPlays_L21_hd v_l1 v_x2593 v_b2594 v_w2595)
  | 0, v_x2593, v_b2594, v_w2595, o, h, q => by rw [G_ringlaw5_ProcPlays_L21] at h; cases h
  | k + 1, v_x2593, v_b2594, v_w2595, o, h, q => by
    rw [G_ringlaw5_ProcPlays_L21] at h
    by_cases h2165 : v_x2593 < (v_l1.length : Int)
    · rw [if_pos h2165] at h
      obtain ⟨v_o3664, h2888, h⟩ := bind_some h
      refine pkk_sound TTok mix hF 7 (hs := [.t true]) (ts := []) (s := [0, 1]) (l := [3, 4, 24, 25, 26]) (by kernel_rfl) (by kernel_rfl) (.cons (dt h2165) .nil) (G_ringlaw5_ProcPlays_C20_ok hF (.s (cR (cR (cR (cP (cB (cR (cL (cR (cR (cR (cR (bodyOf Try.f11)))))))))))) :: .l k (cP (cB (cR (cL (cR (cR (cR (cR (bodyOf Try.f11))))))))) :: ks) n v_l1 v_x2593 v_b2594 v_w2595 _ h2888 ?_)
      cases v_o3664 with
      | x0 v_z3665 =>
        try dsimp only at h
        cases h
        exact pkk_sound TTok mix hF 2 (hs := []) (ts := []) (s := []) (l := [2]) (by kernel_rfl) (by kernel_rfl) .nil q
      | x1 v_z3667 v_z3668 =>
        try dsimp only at h
        exact pkk_sound TTok mix hF 1 (hs := []) (ts := []) (s := [0, 1]) (l := [3, 4, 24, 25, 26]) (by kernel_rfl) (by kernel_rfl) .nil (G_ringlaw5_ProcPlays_L21_ok hF ks n v_l1 k (wi .i64 (v_x2593 + 1)) v_z3667 v_z3668 _ h q)
    · rw [if_neg h2165] at h
      cases h
      exact pkk_sound TTok mix hF 8 (hs := [.t false]) (ts := []) (s := []) (l := []) (by kernel_rfl) (by kernel_rfl) (.cons (df h2165) .nil) q
/- ringhall/ringlaw5.ProcPlays -/
def G_ringlaw5_ProcPlays (n : Nat) (v_l1 : (List S_ringlaw5_Deed)) : Option (Bool) :=
  (G_proc_New_h n ).bind fun (v_r2 : (S_proc_Table)) =>
  (G_ringref5_FirstProcs_h n ).bind fun (v_r3 : ((List S_ringref5_Proc))) =>
  (G_ringlaw5_ProcPlays_L21 n v_l1 n 0 v_r2 v_r3).bind fun v_o3669 => match v_o3669 with
  | .x0 v_z3670 =>
    some v_z3670
  | .x1  =>
    some true
theorem G_ringlaw5_ProcPlays_ok (n : Nat) (v_l1 : (List S_ringlaw5_Deed)) (r : Bool) (h : G_ringlaw5_ProcPlays n v_l1 = some r) : Ret Try.prog 11 [(eL eS_ringlaw5_Deed) v_l1] (eB r) := by
  refine ret_run (n := 195) (fn := Try.f11) (c := bodyOf Try.f11) (by kernel_rfl) (by kernel_rfl) (by kernel_rfl) (by kernel_rfl) ?_
  have hF : KC 195 (FinR Try.prog Try.f11 (eB r)) := FinR.kc' (by kernel_rfl)
  unfold G_ringlaw5_ProcPlays at h
  obtain ⟨v_r2, h1, h⟩ := bind_some h
  obtain ⟨v_r3, h2, h⟩ := bind_some h
  obtain ⟨v_o3669, h2889, h⟩ := bind_some h
  refine pkk_sound TTok mix hF 16 (hs := [.h [] [] [.box ((cS_proc_Table v_r2).map FV.d)] (.ref 0 0), .e 12 [] (.d (.v (.bool false))) [], .c, .h [] [] [.row 180 5 (v_r3.map eS_ringref5_Proc)] (.srf 0), .u (.d (.v (.int .i64 (v_l1.length : Int)))), .n n]) (ts := []) (s := [3, 15]) (l := [3, 4, 24, 25, 26]) (by kernel_rfl) (by kernel_rfl) (.cons (G_proc_New_h_ok n  _ h1) (.cons (xnilP (P := Try.prog) (T := TT) (op := .eql) (t := 160) (e := 245) (ty' := 160) (x := (.tmp 21)) (y := (.const (.pointer none))) (l := 3) (off := 0) rfl (by kernel_rfl)) (.cons (G_ringref5_FirstProcs_h_ok n  _ h2) (.cons (len_ob (f := eS_ringlaw5_Deed) (l := v_l1)) .nil)))) (G_ringlaw5_ProcPlays_L21_ok hF (.b 0 :: .s (cR (cR (cR (cR (cR (bodyOf Try.f11)))))) :: []) n v_l1 n 0 v_r2 v_r3 _ h2889 ?_)
  cases v_o3669 with
  | x0 v_z3670 =>
    try dsimp only at h
    obtain rfl := Option.some.inj h
    exact pend_sound TTok mix 2 (hs := []) (by kernel_rfl) (by kernel_rfl) (by kernel_rfl) .nil
  | x1  =>
    try dsimp only at h
    obtain rfl := Option.some.inj h
    exact pend_sound TTok mix 4 (hs := []) (by kernel_rfl) (by kernel_rfl) (by kernel_rfl) .nil
def okS_ringlaw5_Deed (x : S_ringlaw5_Deed) : Prop := (fun a => (Lit.int .i64 a).wf = true) x.fKind ∧ (fun a => (Lit.int .i64 a).wf = true) x.fP ∧ (fun a => (Lit.int .i64 a).wf = true) x.fN ∧ True
theorem brS_ringlaw5_Deed : Br (.pair (.int .i64) (.pair (.int .i64) (.pair (.int .i64) .unit))) (fun x : S_ringlaw5_Deed => [.v (.int .i64 x.fKind), .v (.int .i64 x.fP), .v (.int .i64 x.fN)]) okS_ringlaw5_Deed := br_map (br_pair (br_int .i64) (br_pair (br_int .i64) (br_pair (br_int .i64) br_unit))) (fun p => S_ringlaw5_Deed.mk p.1 p.2.1 p.2.2.1) (fun p h => ⟨rfl, h⟩)
theorem ProcPlays_walk (H : ∀ (a0 : (List S_ringlaw5_Deed)), (okL 24 okS_ringlaw5_Deed) a0 → ∃ n, G_ringlaw5_ProcPlays n a0 = some true) (w : World) (v0 : Value) (h0 : rep.Arg w (.slice 24 (.pair (.int .i64) (.pair (.int .i64) (.pair (.int .i64) .unit)))) v0) : Calls Try.prog 11 #[v0] w (help.Ret (.bool true) w) := by
  obtain ⟨a0, o0, r0⟩ := arg_one (br_slice (f := eS_ringlaw5_Deed) (ok := okS_ringlaw5_Deed) brS_ringlaw5_Deed (fun _ => rfl) (by decide)) (by rfl) h0
  obtain ⟨n, hn⟩ := H a0 o0
  exact walk_of (G_ringlaw5_ProcPlays_ok n a0 true hn) (RT_cons r0 RT_nil)
/- FRAME ProcPlays; ringhall/ringlaw5.ProcPlays; (.slice 24 (.pair (.int .i64) (.pair (.int .i64) (.pair (.int .i64) .unit)))); .slice none 0 0 -/
end Go.Proofs.Ytjjjaakefnnbpaa.pv
