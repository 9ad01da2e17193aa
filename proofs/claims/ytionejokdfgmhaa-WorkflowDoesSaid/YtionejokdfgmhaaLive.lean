/- live: the chapter's examples. Printed by gen_live.py. -/
import Derived.Test.YtionejokdfgmhaaSt
namespace Go.Proofs.Ytionejokdfgmhaa
open Go.RowKit Go.Maps

theorem approve_1 {w0 w : World} {wb mb : Nat} {U : Wfs} {p : Prot} (h : St w0 w wb mb U p) (s by_ : ByteArray) (hs : s.size ≤ maxLen) (g : Str) (now : Int) {c : Int} (hc : apprC U s.data.toList by_.data.toList [g] now = c) :
    Calls Try.prog 26 #[.pointer (some ⟨wb, 0, none⟩), .string s, .string by_, .slice (some ⟨w.heap.size, 0, none⟩) 1 1, .int .i64 now] (w.alloc (.cells #[.string ⟨g.toArray⟩] 9 (0, 0))) fun e w' => e = .returned (.int .i64 c) ∧ St w0 w' wb mb (apprU U s.data.toList by_.data.toList [g] now) p :=
  approve_st (cap := 1) (h.keptN ((Kept.refl [] w).alloc _)) s by_ hs (strs_lit (l := [g]) (heap_alloc_new w _) rfl (by simp [maxLen])) now hc
theorem reject_1 {w0 w : World} {wb mb : Nat} {U : Wfs} {p : Prot} (h : St w0 w wb mb U p) (s by_ : ByteArray) (hs : s.size ≤ maxLen) (g : Str) (now : Int) {c : Int} (hc : rejC U s.data.toList [g] now = c) :
    Calls Try.prog 27 #[.pointer (some ⟨wb, 0, none⟩), .string s, .string by_, .slice (some ⟨w.heap.size, 0, none⟩) 1 1, .int .i64 now] (w.alloc (.cells #[.string ⟨g.toArray⟩] 9 (0, 0))) fun e w' => e = .returned (.int .i64 c) ∧ St w0 w' wb mb (rejU U s.data.toList [g] now) p :=
  reject_st (cap := 1) (h.keptN ((Kept.refl [] w).alloc _)) s by_ hs (strs_lit (l := [g]) (heap_alloc_new w _) rfl (by simp [maxLen])) now hc
theorem approve_2 {w0 w : World} {wb mb : Nat} {U : Wfs} {p : Prot} (h : St w0 w wb mb U p) (s by_ : ByteArray) (hs : s.size ≤ maxLen) (g g2 : Str) (now : Int) {c : Int} (hc : apprC U s.data.toList by_.data.toList [g, g2] now = c) :
    Calls Try.prog 26 #[.pointer (some ⟨wb, 0, none⟩), .string s, .string by_, .slice (some ⟨w.heap.size, 0, none⟩) 2 2, .int .i64 now] (w.alloc (.cells #[.string ⟨g.toArray⟩, .string ⟨g2.toArray⟩] 9 (0, 0))) fun e w' => e = .returned (.int .i64 c) ∧ St w0 w' wb mb (apprU U s.data.toList by_.data.toList [g, g2] now) p :=
  approve_st (cap := 2) (h.keptN ((Kept.refl [] w).alloc _)) s by_ hs (strs_lit (l := [g, g2]) (heap_alloc_new w _) rfl (by simp [maxLen])) now hc
theorem start_steps {w0 w : World} {wb mb : Nat} {U : Wfs} {p : Prot} (h : St w0 w wb mb U p) (s kind user by_ : ByteArray) (hs : s.size ≤ maxLen) (hk : kind.size ≤ maxLen) (hu : user.size ≤ maxLen) (hb : by_.size ≤ maxLen) {a : Option Addr} (hl : StpsAt w a stpL) (until_ now : Int) {c : Int} (hc : startC U s.data.toList kind.data.toList user.data.toList by_.data.toList stpL until_ now = c) :
    Calls Try.prog 18 #[.pointer (some ⟨wb, 0, none⟩), .string s, .string kind, .string user, .string by_, .slice a 2 2, .int .i64 until_, .int .i64 now] w fun e w' => e = .returned (.int .i64 c) ∧ St w0 w' wb mb (startU U s.data.toList kind.data.toList user.data.toList by_.data.toList stpL until_ now) p :=
  start_st (cap := 2) h s kind user by_ hs hk hu hb hl (by unfold ShortT stpL; simp [sHelp, sSec, maxLen]) until_ now hc
theorem start_nil {w0 w : World} {wb mb : Nat} {U : Wfs} {p : Prot} (h : St w0 w wb mb U p) (s kind user by_ : ByteArray) (hs : s.size ≤ maxLen) (hk : kind.size ≤ maxLen) (hu : user.size ≤ maxLen) (hb : by_.size ≤ maxLen) (until_ now : Int) {c : Int} (hc : startC U s.data.toList kind.data.toList user.data.toList by_.data.toList [] until_ now = c) :
    Calls Try.prog 18 #[.pointer (some ⟨wb, 0, none⟩), .string s, .string kind, .string user, .string by_, .slice none 0 0, .int .i64 until_, .int .i64 now] w fun e w' => e = .returned (.int .i64 c) ∧ St w0 w' wb mb (startU U s.data.toList kind.data.toList user.data.toList by_.data.toList [] until_ now) p :=
  start_st (l := []) (cap := 0) h s kind user by_ hs hk hu hb (list_nil w none) (by unfold ShortT; simp) until_ now hc
theorem same_1 {w : World} {a : Option Addr} {c : Nat} (g : Str) (h : StrsAt w a [g]) :
    Calls Try.prog 21 #[.slice a 1 c, .slice (some ⟨w.heap.size, 0, none⟩) 1 1] (w.alloc (.cells #[.string ⟨g.toArray⟩] 9 (0, 0))) fun e w' => e = .returned (.bool true) ∧ DrewN (w.alloc (.cells #[.string ⟨g.toArray⟩] 9 (0, 0))) w' :=
  sameS_any (cap := c) (cap2 := 1) (l := [g]) (h.keptN ((Kept.refl [] w).alloc _)) (strs_lit (l := [g]) (heap_alloc_new w _) rfl (by simp [maxLen]))

set_option maxHeartbeats 16000000 in
set_option maxRecDepth 100000 in
theorem live_any (w : World) :
    Calls Try.prog 11 #[] w fun e w' => e = .returned (.bool true) ∧ Kept [] w w' := by
  go_enter Try.func11, Try.ntmps11
  go_wp2_with fail
  refine (new_st (Kept.refl [] w) w).mono ?_
  rintro e w1 ⟨wb, mb, rfl, h1⟩
  have H1 := hid h1
  clear h1
  go_wp2_with fail
  refine (steps_any _).mono ?_
  rintro e w2 ⟨rfl, s2, k2⟩
  have HS2 := hid s2
  have H2 := hid (H1.out.keptN k2)
  generalize w1.heap.size = b2 at *
  clear s2 k2 H1
  go_wp2_with fail
  refine (start_steps H2.out ⟨#[120]⟩ ⟨#[114, 101, 99, 111, 118, 101, 114]⟩ ⟨#[101, 118, 101]⟩ ⟨#[100, 97, 110]⟩ (by decide) (by decide) (by decide) (by decide) HS2.out 100 5 v1).mono ?_
  rintro e w3 ⟨rfl, h3⟩
  have H3 := hid (show St w w3 wb mb u1 _ from h3)
  clear h3 H2 HS2
  go_wp2_with fail
  refine (approve_1 H3.out ⟨#[120]⟩ ⟨#[101, 118, 101]⟩ (by decide) sHelp 6 v2).mono ?_
  rintro e w4 ⟨rfl, h4⟩
  have H4 := hid (show St w w4 wb mb u2 _ from h4)
  clear h4 H3
  go_wp2_with fail
  refine (approve_2 H4.out ⟨#[120]⟩ ⟨#[97, 110, 110]⟩ (by decide) sHelp sSec 6 v3).mono ?_
  rintro e w5 ⟨rfl, h5⟩
  have H5 := hid (show St w w5 wb mb u3 _ from h5)
  clear h5 H4
  go_wp2_with fail
  refine (approve_2 H5.out ⟨#[120]⟩ ⟨#[97, 110, 110]⟩ (by decide) sHelp sSec 6 v4).mono ?_
  rintro e w6 ⟨rfl, h6⟩
  have H6 := hid (show St w w6 wb mb u4 _ from h6)
  clear h6 H5
  go_wp2_with fail
  refine (open_st H6.out ⟨#[115, 101, 99, 117, 114, 105, 116, 121]⟩ 6 v4o).mono ?_
  rintro e w7 ⟨a7, c7, rfl, s7, n7, k7⟩
  have H7 := hid (H6.out.guard k7 s7 (by simp) n7)
  have HS7 := hid s7
  clear s7 n7 k7 H6
  go_wp2_with fail
  refine (approve_1 H7.out ⟨#[120]⟩ ⟨#[98, 111, 98]⟩ (by decide) sSec 6 v5).mono ?_
  rintro e w8 ⟨rfl, h8⟩
  have H8 := hid (show St w w8 wb mb u5 _ from h8)
  clear h8 H7
  go_wp2_with fail
  refine (take_st H8.out ⟨#[120]⟩ (by decide) 6 v6).mono ?_
  rintro e w9 ⟨rfl, h9⟩
  have H9 := hid (show St w w9 wb mb u6 _ from h9)
  clear h9 H8
  go_wp2_with fail
  refine (approve_1 H9.out ⟨#[120]⟩ ⟨#[99, 105, 100]⟩ (by decide) sSec 99 v7).mono ?_
  rintro e w10 ⟨rfl, h10⟩
  have H10 := hid (show St w w10 wb mb u7 _ from h10)
  clear h10 H9
  go_wp2_with fail
  refine (state_st H10.out ⟨#[120]⟩ (by decide) 200 v7s).mono ?_
  rintro e w11 ⟨rfl, k11⟩
  have H11 := hid (H10.out.keptN k11)
  clear k11 H10
  go_wp2_with fail
  refine (take_st H11.out ⟨#[120]⟩ (by decide) 200 v8).mono ?_
  rintro e w12 ⟨rfl, h12⟩
  have H12 := hid (show St w w12 wb mb u8 _ from h12)
  clear h12 H11
  go_wp2_with fail
  refine (take_st H12.out ⟨#[120]⟩ (by decide) 200 v9).mono ?_
  rintro e w13 ⟨rfl, h13⟩
  have H13 := hid (show St w w13 wb mb u9 _ from h13)
  clear h13 H12
  go_wp2_with fail
  refine (start_nil H13.out ⟨#[121]⟩ ⟨#[114, 101, 99, 111, 118, 101, 114]⟩ ⟨#[101, 118, 101]⟩ ⟨#[100, 97, 110]⟩ (by decide) (by decide) (by decide) (by decide) 100 5 v10).mono ?_
  rintro e w14 ⟨rfl, h14⟩
  have H14 := hid (show St w w14 wb mb u10 _ from h14)
  clear h14 H13
  go_wp2_with fail
  refine (state_st H14.out ⟨#[121]⟩ (by decide) 5 v10s).mono ?_
  rintro e w15 ⟨rfl, k15⟩
  have H15 := hid (H14.out.keptN k15)
  clear k15 H14
  go_wp2_with fail
  refine (same_1 sX (H15.out.list HS7.out)).mono ?_
  rintro e w16 ⟨rfl, d16⟩
  have H16 := hid ((H15.out.keptN ((Kept.refl [] w15).alloc (.cells #[.string ⟨sX.toArray⟩] 9 (0, 0)))).keptN d16.kept)
  clear d16 H15
  go_wp2_with fail
  refine (open_st H16.out ⟨#[115, 101, 99, 117, 114, 105, 116, 121]⟩ 99 v10o).mono ?_
  rintro e w17 ⟨a17, c17, rfl, s17, n17, k17⟩
  have H17 := hid (H16.out.keptN k17)
  clear s17 n17 k17 H16
  go_wp2_with fail
  refine (reject_1 H17.out ⟨#[120]⟩ ⟨#[98, 111, 98]⟩ (by decide) sSec 6 v11).mono ?_
  rintro e w18 ⟨rfl, h18⟩
  have H18 := hid (show St w w18 wb mb u11 _ from h18)
  clear h18 H17
  go_wp2_with fail
  refine (cancel_st H18.out ⟨#[101, 118, 101]⟩ v12).mono ?_
  rintro e w19 ⟨rfl, h19⟩
  have H19 := hid (show St w w19 wb mb u12 _ from h19)
  clear h19 H18
  go_wp2_with fail
  refine (cancel_st H19.out ⟨#[101, 118, 101]⟩ v13).mono ?_
  rintro e w20 ⟨rfl, h20⟩
  have H20 := hid h20
  clear h20 H19
  go_wp2_with fail
  go_ret
  exact ⟨rfl, H20.out.kept⟩
end Go.Proofs.Ytionejokdfgmhaa
