/- play. Printed by gen_play.py. -/
import Derived.Test.YtdikijbkfhimoaaNil
namespace Go.Proofs.Ytdikijbkfhimoaa
open Go.RowKit Go.Maps

/-- What a call makes of all. -/
def playU (most delay : Nat) (U : Log) (x : OpD) : Log :=
  if x.kind = 0 then beginU U x.id x.list x.now
  else if x.kind = 1 then dueU delay (lim x.now) U
  else if x.kind = 2 then endU doneN U x.id x.cl
  else if x.kind = 3 then endU (failN most) U x.id x.cl
  else U
/-- What it hands back. -/
def PlayRes (delay : Nat) (U : Log) (x : OpD) (m : List Pr) : Prop := if x.kind = 1 then Due delay (lim x.now) U m else m = []
structure Small (x : OpD) : Prop where
  id : x.id.length ≤ 100
  cl : x.cl.length ≤ 100
  list : ∀ c ∈ x.list, c.length ≤ 100
  len : x.list.length ≤ 10
theorem small_of {x : OpD} (h : okO x = true) : Small x := by
  obtain ⟨h1, h2, h3, h4⟩ := okO_ok h
  exact ⟨h1, h2, h4, h3⟩
theorem bsize {c : Str} (h : c.length ≤ 100) : (⟨c.toArray⟩ : ByteArray).size ≤ maxLen := by simp [ByteArray.size, maxLen]; omega
/-- What is left by a call that hands back a list of pairs. -/
def PlayDone (w0 w w' : World) (lb mb most delay : Nat) (U : Log) (p : List (Nat × Obj)) (x : OpD) (e : Ending) : Prop := ∃ m a cap, PlayRes delay U x m ∧ e = .returned (.slice a m.length cap) ∧ PrsAt w' a m ∧ (∀ i ∈ fp a, w.heap.size ≤ i ∧ i < w'.heap.size) ∧ St w0 w' lb mb most delay (playU most delay U x) (pinOf w' a ++ p)
theorem PlayDone.nil {w0 w w' : World} {lb mb most delay : Nat} {U U' : Log} {p : List (Nat × Obj)} {x : OpD} (h1 : x.kind ≠ 1) (hU : playU most delay U x = U') (h : St w0 w' lb mb most delay U' p) : PlayDone w0 w w' lb mb most delay U p x (.returned (.slice none 0 0)) :=
  ⟨[], none, 0, by unfold PlayRes; rw [if_neg h1], rfl, list_nil _ _, by simp [fp], by rw [hU]; exact h⟩
set_option maxHeartbeats 4000000 in
set_option maxRecDepth 100000 in
theorem play_st {w0 w : World} {lb mb most delay : Nat} {U : Log} {p : List (Nat × Obj)} (h : St w0 w lb mb most delay U p) (x : OpD) (hL : OpL w x) (hs : Small x) :
    Calls Try.prog 29 #[.pointer (some ⟨lb, 0, none⟩), .agg (encO x).toArray] w fun e w' => PlayDone w0 w w' lb mb most delay U p x e := by
  have ha := h.keptN ((Kept.refl [] w).alloc (.cells #[.int .i64 x.kind, .string ⟨x.id.toArray⟩, .string ⟨x.cl.toArray⟩, .slice x.ca x.list.length x.cc, .int .i64 x.now] 34))
  have hLa := hL.at_.keptN ((Kept.refl [] w).alloc (.cells #[.int .i64 x.kind, .string ⟨x.id.toArray⟩, .string ⟨x.cl.toArray⟩, .slice x.ca x.list.length x.cc, .int .i64 x.now] 34))
  have HP := hid (fun (W : World) (e : Ending) (h : PlayDone w0 (w.alloc (.cells #[.int .i64 x.kind, .string ⟨x.id.toArray⟩, .string ⟨x.cl.toArray⟩, .slice x.ca x.list.length x.cc, .int .i64 x.now] 34)) W lb mb most delay U p x e) => show PlayDone w0 w W lb mb most delay U p x e from by
    obtain ⟨m, a, cap, h1, h2, h3, h4, h5⟩ := h
    exact ⟨m, a, cap, h1, h2, h3, fun i hi => ⟨by have := (h4 i hi).1; simp at this; omega, (h4 i hi).2⟩, h5⟩)
  have HB := hid (begin_st ha ⟨x.id.toArray⟩ (bsize hs.id) hLa (fun c hc => by have := hs.list c hc; omega) hL.cap x.now)
  have HD := hid (due_st ha x.now)
  have HN := hid (done_st ha ⟨x.id.toArray⟩ ⟨x.cl.toArray⟩ (bsize hs.id) (bsize hs.cl) x.now)
  have HFA := hid (fail_st ha ⟨x.id.toArray⟩ ⟨x.cl.toArray⟩ (bsize hs.id) (bsize hs.cl) x.now)
  have HA := hid ha
  have HK0 := hid (fun (h0 : x.kind = 0) => show playU most delay U x = beginU U x.id x.list x.now from by unfold playU; rw [if_pos h0])
  have HK1 := hid (fun (h0 : x.kind = 1) => show playU most delay U x = dueU delay (lim x.now) U from by unfold playU; simp [h0])
  have HK2 := hid (fun (h0 : x.kind = 2) => show playU most delay U x = endU doneN U x.id x.cl from by unfold playU; simp [h0])
  have HK3 := hid (fun (h0 : x.kind = 3) => show playU most delay U x = endU (failN most) U x.id x.cl from by unfold playU; simp [h0])
  have HK4 := hid (fun (h0 : x.kind ≠ 0) (h1 : x.kind ≠ 1) (h2 : x.kind ≠ 2) (h3 : x.kind ≠ 3) => show playU most delay U x = U from by unfold playU; simp [h0, h1, h2, h3])
  simp only at HB HN HFA
  unfold encO sV
  clear ha hLa h hL hs
  obtain ⟨xk, xi, xc, xl, xn, xa, xq⟩ := x
  dsimp only at *
  by_cases k0 : xk = 0
  · subst k0
    have HX : (0 : Int) ≠ 1 := by decide
    go_enter Try.func29, Try.ntmps29
    go_wp2_with (go_at_call 13; refine HB.out.mono ?_; rintro e w1 ⟨rfl, h1⟩; have H1 := hid h1; clear h1)
    go_ret
    exact HP.out _ _ (PlayDone.nil HX (HK0.out (by trivial)) H1.out)
  by_cases k1 : xk = 1
  · subst k1
    go_enter Try.func29, Try.ntmps29
    go_wp2_with (go_at_call 16; refine HD.out.mono ?_; rintro e w1 ⟨m, a, cap, hd, rfl, h2, h3, h4⟩; have H1 := hid (And.intro hd (And.intro h2 (And.intro h3 h4))); clear hd h2 h3 h4)
    go_ret
    exact HP.out _ _ ⟨m, a, cap, by unfold PlayRes; rw [if_pos rfl]; exact H1.out.1, rfl, H1.out.2.1, H1.out.2.2.1, by rw [HK1.out (by trivial)]; exact H1.out.2.2.2⟩
  by_cases k2 : xk = 2
  · subst k2
    have HX : (2 : Int) ≠ 1 := by decide
    go_enter Try.func29, Try.ntmps29
    go_wp2_with (go_at_call 18; refine HN.out.mono ?_; rintro e w1 ⟨rfl, h1⟩; have H1 := hid h1; clear h1)
    go_ret
    exact HP.out _ _ (PlayDone.nil HX (HK2.out (by trivial)) H1.out)
  by_cases k3 : xk = 3
  · subst k3
    have HX : (3 : Int) ≠ 1 := by decide
    go_enter Try.func29, Try.ntmps29
    go_wp2_with (go_at_call 20; refine HFA.out.mono ?_; rintro e w1 ⟨rfl, h1⟩; have H1 := hid h1; clear h1)
    go_ret
    exact HP.out _ _ (PlayDone.nil HX (HK3.out (by trivial)) H1.out)
  have H4 := hid (HK4.out k0 k1 k2 k3)
  have HX := hid k1
  have i0 : decide (xk = 0) = false := decide_eq_false k0
  have i1 : decide (xk = 1) = false := decide_eq_false k1
  have i2 : decide (xk = 2) = false := decide_eq_false k2
  have i3 : decide (xk = 3) = false := decide_eq_false k3
  go_enter Try.func29, Try.ntmps29
  go_wp2_with fail
  go_ret
  exact HP.out _ _ (PlayDone.nil HX.out H4.out HA.out)
end Go.Proofs.Ytdikijbkfhimoaa
