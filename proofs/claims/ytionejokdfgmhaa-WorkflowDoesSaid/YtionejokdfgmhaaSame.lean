/- same: equal results; two records side by side; their plain law. -/
import Derived.Test.YtionejokdfgmhaaLawQ2
namespace Go.Proofs.Ytionejokdfgmhaa
open Go.RowKit Go.Maps

set_option maxHeartbeats 4000000 in
set_option maxRecDepth 100000 in
theorem same_any {w : World} (r : Res) {a1 a2 : Option Addr} {c1 c2 : Nat} (h1 : StrsAt w a1 r.list) (h2 : StrsAt w a2 r.list) :
    Calls Try.prog 13 #[.agg #[.string ⟨r.a.toArray⟩, .string ⟨r.b.toArray⟩, .slice a1 r.list.length c1, .int .i64 r.n, .int .i64 r.e], .agg #[.string ⟨r.a.toArray⟩, .string ⟨r.b.toArray⟩, .slice a2 r.list.length c2, .int .i64 r.n, .int .i64 r.e]] w fun e w' => e = .returned (.bool true) ∧ Kept [] w w' := by
  have q1 : (r.a == r.a) = true := beq_self_eq_true _
  have q2 : (r.b == r.b) = true := beq_self_eq_true _
  have q3 : (r.n == r.n) = true := beq_self_eq_true _
  have q4 : (r.e == r.e) = true := beq_self_eq_true _
  have k := ((Kept.refl [] w).alloc (.cells #[.string ⟨r.a.toArray⟩, .string ⟨r.b.toArray⟩, .slice a1 r.list.length c1, .int .i64 r.n, .int .i64 r.e] 33 (0, 0))).alloc (.cells #[.string ⟨r.a.toArray⟩, .string ⟨r.b.toArray⟩, .slice a2 r.list.length c2, .int .i64 r.n, .int .i64 r.e] 33 (0, 0))
  have HS := hid (sameS_any (cap := c1) (cap2 := c2) (h1.keptN k) (h2.keptN k))
  have K := hid k
  have hb2 := heap_alloc_new (w.alloc (.cells #[.string ⟨r.a.toArray⟩, .string ⟨r.b.toArray⟩, .slice a1 r.list.length c1, .int .i64 r.n, .int .i64 r.e] 33 (0, 0))) (.cells #[.string ⟨r.a.toArray⟩, .string ⟨r.b.toArray⟩, .slice a2 r.list.length c2, .int .i64 r.n, .int .i64 r.e] 33 (0, 0))
  have hb1 := (Below.heap_alloc (w.alloc (.cells #[.string ⟨r.a.toArray⟩, .string ⟨r.b.toArray⟩, .slice a1 r.list.length c1, .int .i64 r.n, .int .i64 r.e] 33 (0, 0))) (.cells #[.string ⟨r.a.toArray⟩, .string ⟨r.b.toArray⟩, .slice a2 r.list.length c2, .int .i64 r.n, .int .i64 r.e] 33 (0, 0)) w.heap.size (by simp)).trans (heap_alloc_new w _)
  obtain ⟨w2, HW2⟩ : ∃ w2, Hid (w2 = (w.alloc (.cells #[.string ⟨r.a.toArray⟩, .string ⟨r.b.toArray⟩, .slice a1 r.list.length c1, .int .i64 r.n, .int .i64 r.e] 33 (0, 0))).alloc (.cells #[.string ⟨r.a.toArray⟩, .string ⟨r.b.toArray⟩, .slice a2 r.list.length c2, .int .i64 r.n, .int .i64 r.e] 33 (0, 0))) := ⟨_, hid rfl⟩
  rw [← HW2.out] at HS K hb1 hb2
  rw [show (w.alloc (.cells #[.string ⟨r.a.toArray⟩, .string ⟨r.b.toArray⟩, .slice a1 r.list.length c1, .int .i64 r.n, .int .i64 r.e] 33 (0, 0))).heap.size = w.heap.size + 1 by simp] at hb2
  have HB := hid (fun n => And.intro (zero_cells (w := w2.drewN n) hb1) (zero_cells (w := w2.drewN n) hb2))
  clear hb1 hb2 k
  go_enter Try.func13, Try.ntmps13
  go_wp2_with fail
  rw [← HW2.out]
  refine HS.out.mono ?_
  rintro e w3 ⟨rfl, n, rfl⟩
  obtain ⟨⟨a0, a1', a2', a3, a4, _⟩, ⟨b0, b1, b2, b3, b4, _⟩⟩ := HB.out n
  go_wp2_with fail
  go_ret
  exact ⟨rfl, K.out.drewN n⟩

/-! ### two records -/
structure Two (w0 w : World) (wa ma : Nat) (UA : Wfs) (wb mb : Nat) (UB : Wfs) : Prop where
  two : ∃ XA XB, WfAt w wa ma XA ∧ absW XA = UA ∧ WfAt w wb mb XB ∧ absW XB = UB ∧ Kept [] w0 w ∧ (∀ i ∈ wdom wa ma XA, w0.heap.size ≤ i) ∧ (∀ i ∈ wdom wb mb XB, w0.heap.size ≤ i) ∧ ∀ i ∈ wdom wa ma XA, i ∉ wdom wb mb XB
theorem Two.swap {w0 w : World} {wa ma wb mb : Nat} {UA UB : Wfs} (h : Two w0 w wa ma UA wb mb UB) : Two w0 w wb mb UB wa ma UA := by
  obtain ⟨XA, XB, h1, h2, h3, h4, k, h5, h6, h7⟩ := h.two
  exact ⟨XB, XA, h3, h4, h1, h2, k, h6, h5, fun i hi hj => h7 i hj hi⟩
theorem Two.kept {w0 w : World} {wa ma wb mb : Nat} {UA UB : Wfs} (h : Two w0 w wa ma UA wb mb UB) : Kept [] w0 w := by
  obtain ⟨XA, XB, _, _, _, _, k, _⟩ := h.two; exact k
theorem Two.keptN {w0 w w' : World} {wa ma wb mb : Nat} {UA UB : Wfs} (h : Two w0 w wa ma UA wb mb UB) (k' : Kept [] w w') : Two w0 w' wa ma UA wb mb UB := by
  obtain ⟨XA, XB, h1, h2, h3, h4, k, h5, h6, h7⟩ := h.two
  exact ⟨XA, XB, h1.keptN k', h2, h3.keptN k', h4, k.step k' (by simp), h5, h6, h7⟩
theorem Two.left {w0 w w' : World} {wa ma wb mb : Nat} {XA XB : PXs} {U' : Wfs} (_h1 : WfAt w wa ma XA) (h3 : WfAt w wb mb XB) (k : Kept [] w0 w) (h5 : ∀ i ∈ wdom wa ma XA, w0.heap.size ≤ i) (h6 : ∀ i ∈ wdom wb mb XB, w0.heap.size ≤ i) (h7 : ∀ i ∈ wdom wa ma XA, i ∉ wdom wb mb XB) (hL : Left w w' wa ma XA U') : Two w0 w' wa ma U' wb mb (absW XB) := by
  obtain ⟨XA', h1', e, k', hd⟩ := hL
  refine ⟨XA', XB, h1', e, h3.kept k' (fun i hi hj => h7 i hj hi), rfl, k.trans k' (fun i hi => .inr (h5 i hi)), fun i hi => (hd i hi).elim (h5 i) (fun e => Nat.le_trans k.size e), h6, fun i hi hj => ?_⟩
  rcases hd i hi with e | e
  · exact h7 i e hj
  · have := h3.lt i hj; omega
theorem new_two {w0 w : World} {wa ma : Nat} {UA : Wfs} {p : Prot} (h : St w0 w wa ma UA p) : Calls Try.prog 9 #[] w fun e w' => ∃ wb mb, e = .returned (.pointer (some ⟨wb, 0, none⟩)) ∧ Two w0 w' wa ma UA wb mb [] := by
  obtain ⟨X, h1, e, k, hd, _⟩ := h.st
  refine (new_wf w).mono ?_
  rintro e' w' ⟨rfl, h2, k2, hz⟩
  have hsz := k.size
  exact ⟨_, _, rfl, X, [], h1.keptN k2, e, h2, rfl, k.step k2 (by simp), hd, fun i hi => by simp [wdom, pdom] at hi; omega, fun i hi hj => by have := h1.lt i hi; simp [wdom, pdom] at hj; omega⟩
theorem start_two {w0 w : World} {wa ma wb mb : Nat} {UA UB : Wfs} (h : Two w0 w wa ma UA wb mb UB) (s kind user by_ : ByteArray) (hs : s.size ≤ maxLen) (hk : kind.size ≤ maxLen) (hu : user.size ≤ maxLen) (hb : by_.size ≤ maxLen) {a : Option Addr} {cap : Nat} {l : List Stp} (hl : StpsAt w a l) (hsh : ShortT l) (until_ now : Int) {c : Int} (hc : startC UA s.data.toList kind.data.toList user.data.toList by_.data.toList l until_ now = c) :
    Calls Try.prog 18 #[.pointer (some ⟨wa, 0, none⟩), .string s, .string kind, .string user, .string by_, .slice a l.length cap, .int .i64 until_, .int .i64 now] w fun e w' => e = .returned (.int .i64 c) ∧ Two w0 w' wa ma (startU UA s.data.toList kind.data.toList user.data.toList by_.data.toList l until_ now) wb mb UB := by
  obtain ⟨XA, XB, h1, rfl, h3, rfl, k, h5, h6, h7⟩ := h.two
  subst hc
  exact (start_any h1 s kind user by_ hs hk hu hb hl hsh until_ now).mono fun _ _ ⟨e, hL⟩ => ⟨e, Two.left h1 h3 k h5 h6 h7 hL⟩
theorem do_two {w0 w : World} {wa ma wb mb : Nat} {UA UB : Wfs} (h : Two w0 w wa ma UA wb mb UB) (x : OpD) (hs : Small x) (hl : OpLists w x) :
    Calls Try.prog 14 #[.pointer (some ⟨wa, 0, none⟩), .agg #[.int .i64 x.kind, .string ⟨x.id.toArray⟩, .string ⟨x.name.toArray⟩, .string ⟨x.user.toArray⟩, .string ⟨x.by_.toArray⟩, .slice x.sa x.steps.length x.sc, .slice x.ga x.groups.length x.gc, .int .i64 x.until_, .int .i64 x.now]] w fun e w' => DoRes w w' e (doR UA x) ∧ Two w0 w' wa ma (doU UA x) wb mb UB := by
  obtain ⟨XA, XB, h1, rfl, h3, rfl, k, h5, h6, h7⟩ := h.two
  exact (do_any h1 x hs hl).mono fun _ _ ⟨e, hL⟩ => ⟨e, Two.left h1 h3 k h5 h6 h7 hL⟩
theorem state_two {w0 w : World} {wa ma wb mb : Nat} {UA UB : Wfs} (h : Two w0 w wa ma UA wb mb UB) (s : ByteArray) (hs : s.size ≤ maxLen) (now : Int) {r : Str × Nat} (hc : stR UA s.data.toList now = r) :
    Calls Try.prog 16 #[.pointer (some ⟨wa, 0, none⟩), .string s, .int .i64 now] w fun e w' => e = .returned (.tuple #[.string ⟨r.1.toArray⟩, .int .i64 (r.2 : Nat)]) ∧ Kept [] w w' := by
  obtain ⟨XA, XB, h1, rfl, h3, rfl, k, h5, h6, h7⟩ := h.two
  subst hc
  exact (statew_any h1 s hs now).mono fun _ _ ⟨e, hL⟩ => ⟨e, hL.kept⟩

/-! ### what depends on one workflow alone -/
theorem pend_congr {U V : Wfs} {k : Str} (h : alook U k = alook V k) (now : Int) : pendC U k now = pendC V k now := by unfold pendC; rw [h]
theorem appr_congr {U V : Wfs} {k : Str} (h : alook U k = alook V k) (b : Str) (g : List Str) (now : Int) : apprC U k b g now = apprC V k b g now := by unfold apprC; rw [pend_congr h, h]
theorem rej_congr {U V : Wfs} {k : Str} (h : alook U k = alook V k) (g : List Str) (now : Int) : rejC U k g now = rejC V k g now := by unfold rejC; rw [pend_congr h, h]
theorem take_congr {U V : Wfs} {k : Str} (h : alook U k = alook V k) (now : Int) : takeR U k now = takeR V k now := by unfold takeR; rw [h]
theorem st_congr {U V : Wfs} {k : Str} (h : alook U k = alook V k) (now : Int) : stR U k now = stR V k now := by unfold stR; rw [h]
theorem do_congr {U V : Wfs} (o : OpD) (h : alook U o.id = alook V o.id) (h2 : 2 ≤ o.kind) (h5 : o.kind ≤ 5) : doR U o = doR V o := by
  unfold doR
  have e1 : ¬ o.kind = 1 := by omega
  rw [if_neg e1, if_neg e1, appr_congr h, rej_congr h, take_congr h, st_congr h]
  by_cases e2 : o.kind = 2
  · rw [if_pos e2, if_pos e2]
  rw [if_neg e2, if_neg e2]
  by_cases e3 : o.kind = 3
  · rw [if_pos e3, if_pos e3]
  rw [if_neg e3, if_neg e3]
  by_cases e4 : o.kind = 4
  · rw [if_pos e4, if_pos e4]
  have e5 : o.kind = 5 := by omega
  rw [if_neg e4, if_neg e4, if_pos e5, if_pos e5]
theorem do_nolist {U : Wfs} (o : OpD) (h2 : 2 ≤ o.kind) (h5 : o.kind ≤ 5) : (doR U o).list = [] := by
  unfold doR
  have e1 : ¬ o.kind = 1 := by omega
  rw [if_neg e1]
  by_cases e2 : o.kind = 2
  · rw [if_pos e2]; rfl
  rw [if_neg e2]
  by_cases e3 : o.kind = 3
  · rw [if_pos e3]; rfl
  rw [if_neg e3]
  by_cases e4 : o.kind = 4
  · rw [if_pos e4]; rfl
  have e5 : o.kind = 5 := by omega
  rw [if_neg e4, if_pos e5]
  rfl
theorem eff_congr {U V : Wfs} (o : OpD) (h : alook U o.id = alook V o.id) (x : Proc) (k : Str) : effX U x o k = effX V x o k := by
  unfold effX
  rw [appr_congr h, rej_congr h, take_congr h]
/-- The same workflow in two records. -/
structure Same2 (UA UB : Wfs) (x : OpD) (y : Proc) : Prop where
  a : alook UA x.id = some y
  b : alook UB x.id = some y
  user : y.user = x.user
theorem Same2.other {UA UB : Wfs} {x o : OpD} {y : Proc} (h : Same2 UA UB x y) (hi : o.id ≠ x.id) (hu : o.user ≠ x.user) : Same2 UA (doU UB o) x y := by
  refine ⟨h.a, ?_, h.user⟩
  rw [alook_do h.b o (fun _ => by rw [h.user]; exact fun e => hu e.symm)]
  unfold effX
  rw [if_neg hi]
theorem Same2.both {UA UB : Wfs} {x o : OpD} {y : Proc} (h : Same2 UA UB x y) (hi : o.id = x.id) (h2 : 2 ≤ o.kind) (h5 : o.kind ≤ 5) : doR UA o = doR UB o ∧ ∃ y', Same2 (doU UA o) (doU UB o) x y' := by
  have he : alook UA o.id = alook UB o.id := by rw [hi, h.a, h.b]
  refine ⟨do_congr o he h2 h5, effX UA y o x.id, alook_do h.a o (fun h => by omega), ?_, ?_⟩
  · rw [alook_do h.b o (fun h => by omega), eff_congr o he]
  · exact (eff_same UA y o x.id).2.1.trans h.user
end Go.Proofs.Ytionejokdfgmhaa
