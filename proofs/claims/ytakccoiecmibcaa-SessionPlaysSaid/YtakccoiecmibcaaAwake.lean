/- awake: the chapter's examples. Printed by gen_awake.py. -/
import Derived.Test.YtakccoiecmibcaaDo
namespace Go.Proofs.Ytakccoiecmibcaa
open Go.RowKit Go.Maps

set_option maxHeartbeats 1000000 in
theorem sameS_any {w : World} {a b : Option Addr} {cap cap2 : Nat} {l : List Str} (h : StrsAt w a l) (h2 : StrsAt w b l) :
    Calls Try.prog 25 #[.slice a l.length cap, .slice b l.length cap2] w fun e w' => e = .returned (.bool true) ∧ DrewN w w' := by
  have hf := h.few
  unfold maxLen at hf
  go_enter Try.func25, Try.ntmps25
  go_wp2_with fail
  go_loopw [5] (fun i wr => ∃ k n : Nat, k ≤ l.length ∧ i = .int .i64 k ∧ wr = w.drewN n) (fun i _ => l.length - (intOf i).toNat)
  case atStart => exact ⟨0, 0, Nat.zero_le _, rfl, rfl⟩
  case round =>
    obtain ⟨k, n, hk, rfl, rfl⟩ := hrel
    by_cases hlt : k < l.length
    · obtain ⟨b1, off, rfl, hb, hc0⟩ := StrsAt.get h hlt
      obtain ⟨b2, off2, rfl, hb2, hd0⟩ := StrsAt.get h2 hlt
      unfold sV at hc0 hd0
      have hb1 : (0 : Int) ≤ k := by omega
      have hb2 : (k : Int) < l.length := by omega
      have q0 : (l[k] != l[k]) = false := by simp
      go_wp2_with fail
      go_quiet (fail)
      go_wp2_with fail
      go_roundw
      case rel => exact ⟨k + 1, _, by omega, by go_num, rfl⟩
      case measure => simp [intOf]; omega
    · go_wp2_with fail
      go_ret
      exact ⟨rfl, _, rfl⟩
theorem strs_lit {w : World} {b : Nat} {cs : Array Value} {t : TypeId} {l : List Str} (h : w.heap[b]? = some (.cells cs t (0, 0))) (hc : cs.toList = rowV encS l) (hl : l.length ≤ maxLen) : StrsAt w (some ⟨b, 0, none⟩) l := list_box encSOk h hc hl
theorem same_1 {w : World} {a : Option Addr} {c : Nat} (g : Str) (h : StrsAt w a [g]) :
    Calls Try.prog 25 #[.slice a 1 c, .slice (some ⟨w.heap.size, 0, none⟩) 1 1] (w.alloc (.cells #[.string ⟨g.toArray⟩] 9 (0, 0))) fun e w' => e = .returned (.bool true) ∧ DrewN (w.alloc (.cells #[.string ⟨g.toArray⟩] 9 (0, 0))) w' :=
  sameS_any (cap := c) (cap2 := 1) (l := [g]) (h.keptN ((Kept.refl [] w).alloc _)) (strs_lit (l := [g]) (heap_alloc_new w _) rfl (by simp [maxLen]))
set_option maxHeartbeats 400000 in
theorem proofs_any (t : Int) (w : World) : Calls Try.prog 11 #[.int .i64 t] w fun e w' => e = .returned (.slice (some ⟨w.heap.size, 0, none⟩) 1 1) ∧ PrfsAt w' (some ⟨w.heap.size, 0, none⟩) [(1, t)] ∧ Kept [] w w' := by
  go_enter Try.func11, Try.ntmps11
  go_wp2
  go_ret
  exact ⟨rfl, prf_box w (1, t), (Kept.refl [] w).alloc _⟩
theorem St.pin {w0 w : World} {sb mb : Nat} {idle abs : Int} {U : Sss} {p : List Nat} {wp : World} (h : St w0 w sb mb idle abs U p wp) {i : Nat} (hi : i ∈ p) : w.heap[i]? = wp.heap[i]? := by obtain ⟨_, _, _, _, _, hp⟩ := h.st; exact (hp i hi).2.2
/-- More blocks are protected. -/
theorem St.more {w0 w w' : World} {sb mb : Nat} {idle abs : Int} {U : Sss} {p : List Nat} {wp : World} (h : St w0 w sb mb idle abs U p wp) (k : Kept [] w w') (q : List Nat) (hq : ∀ i ∈ q, w.heap.size ≤ i ∧ i < w'.heap.size) : St w0 w' sb mb idle abs U (p ++ q) w' := by
  obtain ⟨X, h1, e, k0, hd, hp⟩ := h.st
  refine ⟨X, h1.keptN k, e, k0.step k (by simp), hd, fun i hi => ?_⟩
  rcases List.mem_append.1 hi with hi | hi
  · exact ⟨Nat.lt_of_lt_of_le (hp i hi).1 k.size, (hp i hi).2.1, rfl⟩
  · exact ⟨(hq i hi).2, fun hm => by have := h1.lt i hm; have := (hq i hi).1; omega, rfl⟩
theorem fp_lt {α : Type} {sz : Nat} {enc : α → List Value} {w : World} {a : Option Addr} {l : List α} (h : ListAt sz enc w a l) (hl : 0 < l.length) : ∀ i ∈ fp a, i < w.heap.size := by
  intro i hi
  obtain ⟨b, off, rfl, hb, _⟩ := h.at (i := 0) hl
  simp [fp] at hi
  omega
def zS1 : Str := [115, 49]
def zAnn : Str := [97, 110, 110]
def zT : Str := [116]
def zWeb : Str := [119, 101, 98]
def u0 : Sss := startU 10 100 [] zS1 zAnn zT [] [] 5
def u1 : Sss := startU 10 100 u0 zS1 zAnn zT [] [(1, 5)] 5
def u2 : Sss := startU 10 100 u1 zS1 zAnn zT [] [(1, 5)] 5
def u3 : Sss := touchU 10 100 u2 zS1 12
def u4 : Sss := joinU u3 zS1 zWeb 13
def u5 : Sss := joinU u4 zS1 zWeb 13
def u6 : Sss := endU u5 zS1
def u7 : Sss := endU u6 zS1
def u8 : Sss := startU 10 100 u7 zS1 zAnn zT [] [(1, 5)] 14
def u9 : Sss := expU u8 22
def u10 : Sss := startU 10 100 u9 zS1 zAnn zT [] [(1, 5)] 22
theorem v0 : startC [] zS1 zAnn zT [] [] = 21 := by decide +kernel
theorem v1 : startC u0 zS1 zAnn zT [] [(1, 5)] = 0 := by decide +kernel
theorem v2 : startC u1 zS1 zAnn zT [] [(1, 5)] = 7 := by decide +kernel
theorem v3 : findC u2 zS1 15 = 13 := by decide +kernel
theorem v4 : findC u2 zS1 14 = 0 := by decide +kernel
theorem v4u : (getR u2 zS1 14).2.until_ = 15 := by decide +kernel
theorem v5 : findC u2 zS1 12 = 0 := by decide +kernel
theorem v6 : findC u3 zS1 21 = 0 := by decide +kernel
theorem v6u : (getR u3 zS1 21).2.until_ = 22 := by decide +kernel
theorem v6s : (getR u3 zS1 21).2.seen = 12 := by decide +kernel
theorem v7 : joinC u3 zS1 zWeb 13 = 0 := by decide +kernel
theorem v8 : joinC u4 zS1 zWeb 13 = 0 := by decide +kernel
theorem v9 : ofL u5 zAnn 13 = [zS1] := by
  unfold ofL
  rw [show (u5.filter fun p => liveB p.2 (lim 13) && p.2.user == zAnn).map (·.1) = [zS1] by decide +kernel]
  simp [sortS]
theorem v10 : endC u5 zS1 = 0 := by decide +kernel
theorem v10l : endL u5 zS1 = [zWeb] := by decide +kernel
theorem v11 : endC u6 zS1 = 6 := by decide +kernel
theorem v11l : endL u6 zS1 = [] := by decide +kernel
theorem v12 : startC u7 zS1 zAnn zT [] [(1, 5)] = 7 := by decide +kernel
theorem v13 : expL u8 22 = [] := by
  unfold expL
  rw [show (u8.filter fun p => expB p.2 (lim 22) && !p.2.ended).map (·.1) = [] by decide +kernel]
  simp [sortS]
theorem v14 : startC u9 zS1 zAnn zT [] [(1, 5)] = 0 := by decide +kernel
theorem v15 : lenN u10 = 1 := by decide +kernel
theorem lim10 : lim 10 = 10 := by decide
theorem lim100 : lim 100 = 100 := by decide

set_option maxHeartbeats 16000000 in
set_option maxRecDepth 100000 in
theorem awake_any (w : World) :
    Calls Try.prog 17 #[] w fun e w' => e = .returned (.bool true) ∧ Kept [] w w' := by
  go_enter Try.func17, Try.ntmps17
  go_wp2_with fail
  refine (new_bad (idle := 0) (abs := 10) (by decide) w).mono ?_
  rintro e w1 ⟨rfl, rfl⟩
  go_wp2_with fail
  refine (new_st (Kept.refl [] w) (idle := 10) (abs := 100) (by decide)).mono ?_
  rintro e w1 ⟨sb, mb, rfl, h1⟩
  rw [lim10, lim100] at h1
  have H1 := hid h1.free
  clear h1
  go_wp2_with fail
  refine (start_st H1.out ⟨#[115, 49]⟩ ⟨#[97, 110, 110]⟩ ⟨#[116]⟩ ⟨#[]⟩ (by decide) (by decide) (by decide) (by decide) (cap := 0) (list_nil w1 none) (by decide) 5 v0).mono ?_
  rintro e w2 ⟨rfl, h2⟩
  have H2 := hid (show St w w2 sb mb 10 100 u0 _ _ from h2)
  clear h2 H1
  go_wp2_with fail
  refine (proofs_any 5 _).mono ?_
  rintro e w3a ⟨rfl, s3, k3⟩
  have HS3 := hid s3
  have H3a := hid (H2.out.keptN k3)
  clear s3 k3 H2
  go_wp2_with fail
  refine (start_st H3a.out ⟨#[115, 49]⟩ ⟨#[97, 110, 110]⟩ ⟨#[116]⟩ ⟨#[]⟩ (by decide) (by decide) (by decide) (by decide) (cap := 1) HS3.out (by decide) 5 v1).mono ?_
  rintro e w3 ⟨rfl, h3⟩
  have H3 := hid (show St w w3 sb mb 10 100 u1 _ _ from h3)
  clear h3 H3a HS3
  go_wp2_with fail
  refine (proofs_any 5 _).mono ?_
  rintro e w4a ⟨rfl, s4, k4⟩
  have HS4 := hid s4
  have H4a := hid (H3.out.keptN k4)
  clear s4 k4 H3
  go_wp2_with fail
  refine (start_st H4a.out ⟨#[115, 49]⟩ ⟨#[97, 110, 110]⟩ ⟨#[116]⟩ ⟨#[]⟩ (by decide) (by decide) (by decide) (by decide) (cap := 1) HS4.out (by decide) 5 v2).mono ?_
  rintro e w4 ⟨rfl, h4⟩
  have H4 := hid (show St w w4 sb mb 10 100 u2 _ _ from h4)
  clear h4 H4a HS4
  obtain ⟨r5, HR5⟩ : ∃ r, Hid (getR u2 zS1 15 = r) := ⟨_, hid rfl⟩
  go_wp2_with fail
  refine (get_st H4.out ⟨#[115, 49]⟩ (by decide) 15 v3 HR5.out).mono ?_
  rintro e w5 ⟨pa5, pc5, ca5, cc5, rfl, _, _, _, _, k5⟩
  have hb5 := heap_alloc_new w5 (.cells #[.string ⟨r5.1.toArray⟩, .string ⟨r5.2.user.toArray⟩, .string ⟨r5.2.tenant.toArray⟩, .string ⟨r5.2.device.toArray⟩, .int .i64 r5.2.started, .int .i64 r5.2.seen, .int .i64 r5.2.until_, .slice pa5 r5.2.proofs.length pc5, .slice ca5 r5.2.clients.length cc5] 33 (0, 0))
  have ha5 := k5.alloc (.cells #[.string ⟨r5.1.toArray⟩, .string ⟨r5.2.user.toArray⟩, .string ⟨r5.2.tenant.toArray⟩, .string ⟨r5.2.device.toArray⟩, .int .i64 r5.2.started, .int .i64 r5.2.seen, .int .i64 r5.2.until_, .slice pa5 r5.2.proofs.length pc5, .slice ca5 r5.2.clients.length cc5] 33 (0, 0))
  have hm5 := H4.out.more ha5 [w5.heap.size] (fun i hi => by have := k5.size; simp at hi; simp; omega)
  obtain ⟨b5, HBB5⟩ : ∃ b, Hid (b = w5.heap.size) := ⟨_, hid rfl⟩
  obtain ⟨w5b, HW5⟩ : ∃ v, Hid (v = w5.alloc (.cells #[.string ⟨r5.1.toArray⟩, .string ⟨r5.2.user.toArray⟩, .string ⟨r5.2.tenant.toArray⟩, .string ⟨r5.2.device.toArray⟩, .int .i64 r5.2.started, .int .i64 r5.2.seen, .int .i64 r5.2.until_, .slice pa5 r5.2.proofs.length pc5, .slice ca5 r5.2.clients.length cc5] 33 (0, 0))) := ⟨_, hid rfl⟩
  rw [← HW5.out] at hb5 ha5 hm5
  rw [← HBB5.out] at hb5 hm5
  have HB5 := hid hb5
  have H5 := hid hm5
  go_wp2_with fail
  rw [← HW5.out, ← HBB5.out]
  clear hb5 ha5 hm5 k5 H4
  obtain ⟨r6, HR6⟩ : ∃ r, Hid (getR u2 zS1 14 = r) := ⟨_, hid rfl⟩
  refine (get_st H5.out ⟨#[115, 49]⟩ (by decide) 14 v4 HR6.out).mono ?_
  rintro e w6 ⟨pa6, pc6, ca6, cc6, rfl, _, _, _, _, k6⟩
  have hb6 := heap_alloc_new w6 (.cells #[.string ⟨r6.1.toArray⟩, .string ⟨r6.2.user.toArray⟩, .string ⟨r6.2.tenant.toArray⟩, .string ⟨r6.2.device.toArray⟩, .int .i64 r6.2.started, .int .i64 r6.2.seen, .int .i64 r6.2.until_, .slice pa6 r6.2.proofs.length pc6, .slice ca6 r6.2.clients.length cc6] 33 (0, 0))
  have ha6 := k6.alloc (.cells #[.string ⟨r6.1.toArray⟩, .string ⟨r6.2.user.toArray⟩, .string ⟨r6.2.tenant.toArray⟩, .string ⟨r6.2.device.toArray⟩, .int .i64 r6.2.started, .int .i64 r6.2.seen, .int .i64 r6.2.until_, .slice pa6 r6.2.proofs.length pc6, .slice ca6 r6.2.clients.length cc6] 33 (0, 0))
  have hm6 := H5.out.more ha6 [w6.heap.size] (fun i hi => by have := k6.size; simp at hi; simp; omega)
  obtain ⟨b6, HBB6⟩ : ∃ b, Hid (b = w6.heap.size) := ⟨_, hid rfl⟩
  obtain ⟨w6b, HW6⟩ : ∃ v, Hid (v = w6.alloc (.cells #[.string ⟨r6.1.toArray⟩, .string ⟨r6.2.user.toArray⟩, .string ⟨r6.2.tenant.toArray⟩, .string ⟨r6.2.device.toArray⟩, .int .i64 r6.2.started, .int .i64 r6.2.seen, .int .i64 r6.2.until_, .slice pa6 r6.2.proofs.length pc6, .slice ca6 r6.2.clients.length cc6] 33 (0, 0))) := ⟨_, hid rfl⟩
  rw [← HW6.out] at hb6 ha6 hm6
  rw [← HBB6.out] at hb6 hm6
  have HB6 := hid hb6
  have HA6 := hid (H5.out.keptN ha6)
  have H6 := hid hm6
  go_wp2_with fail
  rw [← HW6.out, ← HBB6.out]
  clear hb6 ha6 hm6 k6 H5
  refine (touch_st H6.out ⟨#[115, 49]⟩ (by decide) 12 v5).mono ?_
  rintro e w7 ⟨rfl, h7⟩
  have H7 := hid (show St w w7 sb mb 10 100 u3 _ _ from h7)
  clear h7 H6
  go_wp2_with fail
  obtain ⟨r8, HR8⟩ : ∃ r, Hid (getR u3 zS1 21 = r) := ⟨_, hid rfl⟩
  refine (get_st H7.out ⟨#[115, 49]⟩ (by decide) 21 v6 HR8.out).mono ?_
  rintro e w8 ⟨pa8, pc8, ca8, cc8, rfl, _, _, _, _, k8⟩
  have hb8 := heap_alloc_new w8 (.cells #[.string ⟨r8.1.toArray⟩, .string ⟨r8.2.user.toArray⟩, .string ⟨r8.2.tenant.toArray⟩, .string ⟨r8.2.device.toArray⟩, .int .i64 r8.2.started, .int .i64 r8.2.seen, .int .i64 r8.2.until_, .slice pa8 r8.2.proofs.length pc8, .slice ca8 r8.2.clients.length cc8] 33 (0, 0))
  have ha8 := k8.alloc (.cells #[.string ⟨r8.1.toArray⟩, .string ⟨r8.2.user.toArray⟩, .string ⟨r8.2.tenant.toArray⟩, .string ⟨r8.2.device.toArray⟩, .int .i64 r8.2.started, .int .i64 r8.2.seen, .int .i64 r8.2.until_, .slice pa8 r8.2.proofs.length pc8, .slice ca8 r8.2.clients.length cc8] 33 (0, 0))
  have hm8 := H7.out.more ha8 [w8.heap.size] (fun i hi => by have := k8.size; simp at hi; simp; omega)
  obtain ⟨b8, HBB8⟩ : ∃ b, Hid (b = w8.heap.size) := ⟨_, hid rfl⟩
  obtain ⟨w8b, HW8⟩ : ∃ v, Hid (v = w8.alloc (.cells #[.string ⟨r8.1.toArray⟩, .string ⟨r8.2.user.toArray⟩, .string ⟨r8.2.tenant.toArray⟩, .string ⟨r8.2.device.toArray⟩, .int .i64 r8.2.started, .int .i64 r8.2.seen, .int .i64 r8.2.until_, .slice pa8 r8.2.proofs.length pc8, .slice ca8 r8.2.clients.length cc8] 33 (0, 0))) := ⟨_, hid rfl⟩
  rw [← HW8.out] at hb8 ha8 hm8
  rw [← HBB8.out] at hb8 hm8
  have HB8 := hid hb8
  have HA8 := hid (H7.out.keptN ha8)
  have H8 := hid hm8
  go_wp2_with fail
  rw [← HW8.out, ← HBB8.out]
  clear hb8 ha8 hm8 k8 H7
  have HB6b := hid ((HA8.out.pin (i := b6) (by simp)).trans HB6.out)
  refine (join_st H8.out ⟨#[115, 49]⟩ ⟨#[119, 101, 98]⟩ (by decide) (by decide) 13 v7).mono ?_
  rintro e w9 ⟨rfl, h9⟩
  have H9 := hid (show St w w9 sb mb 10 100 u4 _ _ from h9)
  clear h9 H8
  go_wp2_with fail
  refine (join_st H9.out ⟨#[115, 49]⟩ ⟨#[119, 101, 98]⟩ (by decide) (by decide) 13 v8).mono ?_
  rintro e w10 ⟨rfl, h10⟩
  have H10 := hid (show St w w10 sb mb 10 100 u5 _ _ from h10)
  clear h10 H9
  go_wp2_with fail
  refine (of_st H10.out ⟨#[97, 110, 110]⟩ 13 v9).mono ?_
  rintro e w11 ⟨a11, c11, rfl, s11, n11, k11⟩
  have HX11 := hid (H10.out.keptN k11)
  have H11 := hid (H10.out.more k11 (fp a11) (fun i hi => ⟨n11 i hi, fp_lt s11 (by simp) i hi⟩))
  have HS11 := hid s11
  have HB6c := hid ((HX11.out.pin (i := b6) (by simp)).trans HB6b.out)
  have HB8c := hid ((HX11.out.pin (i := b8) (by simp)).trans HB8.out)
  clear s11 n11 k11 H10 HX11
  go_wp2_with fail
  refine (end_st H11.out ⟨#[115, 49]⟩ (by decide) v10 v10l).mono ?_
  rintro e w12 ⟨a12, c12, rfl, s12, p12, h12⟩
  have hx12 := h12
  rw [if_pos (by simp)] at hx12
  have H12 := hid (show St w w12 sb mb 10 100 u6 _ _ from hx12)
  have HS12 := hid s12
  have HS11b := hid (strs_pin HS11.out (fun _ i hi => p12 i (by simp [hi])))
  have HB6d := hid ((p12 b6 (by simp)).trans HB6c.out)
  have HB8d := hid ((p12 b8 (by simp)).trans HB8c.out)
  clear s12 p12 h12 hx12 H11
  go_wp2_with fail
  refine (end_st H12.out ⟨#[115, 49]⟩ (by decide) v11 v11l).mono ?_
  rintro e w13 ⟨a13, c13, rfl, s13, p13, h13⟩
  have hx13 := h13
  rw [if_neg (by simp)] at hx13
  have H13 := hid (show St w w13 sb mb 10 100 u7 _ _ from hx13)
  have HS11c := hid (strs_pin HS11b.out (fun _ i hi => p13 i (by simp [hi])))
  have HS12b := hid (strs_pin HS12.out (fun _ i hi => p13 i (by simp [hi])))
  have HB6e := hid ((p13 b6 (by simp)).trans HB6d.out)
  have HB8e := hid ((p13 b8 (by simp)).trans HB8d.out)
  clear s13 p13 h13 hx13 H12
  go_wp2_with fail
  refine (proofs_any 5 _).mono ?_
  rintro e w14a ⟨rfl, s14, k14⟩
  have HS14 := hid s14
  have H14a := hid (H13.out.keptN k14)
  clear s14 k14 H13
  go_wp2_with fail
  refine (start_st H14a.out ⟨#[115, 49]⟩ ⟨#[97, 110, 110]⟩ ⟨#[116]⟩ ⟨#[]⟩ (by decide) (by decide) (by decide) (by decide) (cap := 1) HS14.out (by decide) 14 v12).mono ?_
  rintro e w14 ⟨rfl, h14⟩
  have H14 := hid (show St w w14 sb mb 10 100 u8 _ _ from h14)
  clear h14 H14a HS14
  go_wp2_with fail
  refine (expire_st H14.out 22 v13).mono ?_
  rintro e w15 ⟨⟨a15, c15, rfl, s15, n15⟩, h15⟩
  have H15 := hid (show St w w15 sb mb 10 100 u9 _ _ from h15)
  clear s15 n15 h15 H14
  go_wp2_with fail
  refine (proofs_any 5 _).mono ?_
  rintro e w16a ⟨rfl, s16, k16⟩
  have HS16 := hid s16
  have H16a := hid (H15.out.keptN k16)
  clear s16 k16 H15
  go_wp2_with fail
  refine (start_st H16a.out ⟨#[115, 49]⟩ ⟨#[97, 110, 110]⟩ ⟨#[116]⟩ ⟨#[]⟩ (by decide) (by decide) (by decide) (by decide) (cap := 1) HS16.out (by decide) 22 v14).mono ?_
  rintro e w16 ⟨rfl, h16⟩
  have H16 := hid (show St w w16 sb mb 10 100 u10 _ _ from h16)
  clear h16 H16a HS16
  have HB6f := hid ((H16.out.pin (i := b6) (by simp)).trans HB6e.out)
  have HB8f := hid ((H16.out.pin (i := b8) (by simp)).trans HB8e.out)
  have HS11f := hid (strs_pin HS11c.out (fun _ i hi => H16.out.pin (i := i) (by simp [hi])))
  have HS12f := hid (strs_pin HS12b.out (fun _ i hi => H16.out.pin (i := i) (by simp [hi])))
  have g6 : w16.cell? ⟨b6, 6, none⟩ = some (.int .i64 15) := by rw [cell_at HB6f.out, ← v4u, HR6.out]; rfl
  have g8 : w16.cell? ⟨b8, 6, none⟩ = some (.int .i64 22) := by rw [cell_at HB8f.out, ← v6u, HR8.out]; rfl
  have g9 : w16.cell? ⟨b8, 5, none⟩ = some (.int .i64 12) := by rw [cell_at HB8f.out, ← v6s, HR8.out]; rfl
  go_wp2_with fail
  refine (same_1 zS1 HS11f.out).mono ?_
  rintro e w17 ⟨rfl, d17⟩
  have H17 := hid ((H16.out.keptN ((Kept.refl [] w16).alloc (.cells #[.string ⟨zS1.toArray⟩] 9 (0, 0)))).keptN d17.kept)
  have HS12g := hid ((HS12f.out.keptN ((Kept.refl [] w16).alloc (.cells #[.string ⟨zS1.toArray⟩] 9 (0, 0)))).keptN d17.kept)
  clear d17
  go_wp2_with fail
  refine (same_1 zWeb HS12g.out).mono ?_
  rintro e w18 ⟨rfl, d18⟩
  have H18 := hid ((H17.out.keptN ((Kept.refl [] w17).alloc (.cells #[.string ⟨zWeb.toArray⟩] 9 (0, 0)))).keptN d18.kept)
  clear d18
  go_wp2_with fail
  refine (len_st H18.out v15).mono ?_
  rintro e w19 ⟨rfl, k19⟩
  have H19 := hid (H18.out.keptN k19)
  clear k19
  go_wp2_with fail
  go_ret
  exact ⟨rfl, H19.out.kept⟩
end Go.Proofs.Ytakccoiecmibcaa
