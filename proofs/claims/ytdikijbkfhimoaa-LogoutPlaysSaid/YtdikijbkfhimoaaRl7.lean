/- find, Done, Bound of the reference, walked. -/
import Derived.Test.YtdikijbkfhimoaaRl6
import Derived.StillTailTactics
namespace Go.Proofs.Ytdikijbkfhimoaa
open Go.RowKit Go.Maps

section
variable {w : World} {qb most delay : Nat} {a : Option Addr} {cap : Nat} {Y : List RQ} {U : Log}
def noV (e : Int) : Value := .tuple #[.int .i64 (-1), .int .i64 (-1), .int .i64 e]
/-- What find answers of a session's notes: the first k are others. -/
def FindV (c : Str) (i : Nat) (l : List RN) (k : Nat) (v : Value) : Prop := (k = l.length ∧ v = noV 6) ∨ ∃ hk : k < l.length, eqN c l[k] = true ∧ v = (if l[k].state = 1 then .tuple #[.int .i64 (i : Int), .int .i64 (k : Int), .int .i64 0] else noV 12)
set_option maxHeartbeats 1000000 in
theorem find_out (h : RAt w qb most delay a cap Y) (s c : ByteArray) (hx : idx (eqR s.data.toList) Y = -1) :
    Calls Try.prog 48 #[.pointer (some ⟨qb, 0, none⟩), .string s, .string c] w fun e w' => e = .returned (noV 6) ∧ w = w' := by
  have c0 := h.c0
  have hm1 := h.rm.1
  have HA := hid (at_any h s)
  rw [hx] at HA
  have i0 : decide ((most : Int) = 0) = false := decide_eq_false (by omega)
  have i1 : ((most : Int) == 0) = false := by rw [beq_eq_false_iff_ne]; omega
  clear h hx
  go_enter Try.func48, Try.ntmps48
  go_wp2_with (go_at_call 37; refine HA.out.mono ?_; rintro e w' ⟨rfl, rfl⟩)
  go_loop [10] (fun kv => kv = .int .i64 0) (fun _ => 0)
  case atStart => rfl
  case round =>
    subst hrel
    go_wp2_with fail
    go_ret3
    exact ⟨rfl, rfl⟩
set_option maxHeartbeats 4000000 in
theorem find_any (h : RAt w qb most delay a cap Y) (s c : ByteArray) {i : Nat} (hi : i < Y.length) (hx : idx (eqR s.data.toList) Y = i) {K : Nat} {v : Value} (hn : NoneTo (eqN c.data.toList) Y[i].l K) (hv : FindV c.data.toList i Y[i].l K v) :
    Calls Try.prog 48 #[.pointer (some ⟨qb, 0, none⟩), .string s, .string c] w fun e w' => e = .returned v ∧ w = w' := by
  have c0 := h.c0
  have c2 := h.c2
  have hm1 := h.rm.1
  have hfew := h.len
  have hl := h.lens _ (List.getElem_mem hi)
  have HA := hid (at_any h s)
  rw [hx] at HA
  have i0 : decide ((most : Int) = 0) = false := decide_eq_false (by omega)
  have i1 : ((most : Int) == 0) = false := by rw [beq_eq_false_iff_ne]; omega
  obtain ⟨g, rfl, hg, d0, d1⟩ := h.get hi
  have HNT := hid (fun k (hk : k < Y[i].l.length) => h.note hi hk)
  have HN := hid hn
  have HV := hid hv
  have j1 : (0 : Int) ≤ i := by omega
  have j2 : (i : Int) < Y.length := by omega
  have hKl : K ≤ Y[i].l.length := by
    rcases hv with ⟨e, _⟩ | ⟨hk, _⟩
    · exact Nat.le_of_eq e
    · exact Nat.le_of_lt hk
  clear h hx hn hv d0
  generalize Y[i] = y at *
  go_enter Try.func48, Try.ntmps48
  go_wp2_with (go_at_call 37; refine HA.out.mono ?_; rintro e w' ⟨rfl, rfl⟩)
  go_loop [10] (fun kv => ∃ k : Nat, k ≤ K ∧ kv = .int .i64 (k : Int)) (fun kv => K - (intOf kv).toNat)
  case atStart => exact ⟨0, Nat.zero_le _, rfl⟩
  case round =>
    obtain ⟨k, hk, rfl⟩ := hrel
    have k1 : (0 : Int) ≤ k := by omega
    by_cases hkl : k < y.l.length
    · have k2 : (k : Int) < y.l.length := by omega
      obtain ⟨b, eb, hb, n0, _, _, n3, _⟩ := HNT.out k hkl
      unfold sV at n0
      have d1' := d1
      rw [eb] at d1'
      by_cases hkK : k < K
      · have z1 : (y.l[k].c == c.toList) = false := by have := HN.out k hkK hkl; rw [ByteArray.toList_eq]; exact this
        have EB := hid eb
        clear eb d1
        generalize y.l[k] = r at *
        go_wp2_with fail
        go_round
        case rel => exact ⟨k + 1, by omega, by go_num⟩
        case measure => simp [intOf]; omega
      · obtain rfl : k = K := by omega
        have EB := hid eb
        clear eb d1
        rcases HV.out with ⟨e, _⟩ | ⟨_, hc, hv⟩
        · omega
        · have z1 : (y.l[k].c == c.toList) = true := by rw [ByteArray.toList_eq]; exact hc
          clear hc
          by_cases hs : y.l[k].state = 1
          · rw [if_pos hs] at hv
            subst hv
            rw [hs] at n3
            clear hs HV HN
            generalize y.l[k] = r at *
            go_wp2_with fail
            go_ret3
            exact ⟨rfl, rfl⟩
          · rw [if_neg hs] at hv
            subst hv
            have z2 : decide (y.l[k].state = 1) = false := decide_eq_false hs
            have z3 : (y.l[k].state == 1) = false := beq_eq_false_iff_ne.2 hs
            clear HV HN
            generalize y.l[k] = r at *
            generalize r.state = rs at *
            clear hs
            go_wp2_with fail
            go_ret3
            exact ⟨rfl, rfl⟩
    · have hv : v = noV 6 := by
        rcases HV.out with ⟨_, e⟩ | ⟨hk2, _⟩
        · exact e
        · omega
      subst hv
      have k3 : decide ((k : Int) < y.l.length) = false := decide_eq_false (by omega)
      go_wp2_with fail
      go_ret3
      exact ⟨rfl, rfl⟩
theorem setU_look {s c : Str} {n : Note} {x : Ses} (h : alook U s = some x) : setU U s c n = aput U s (x.1, aput x.2 c n) := by unfold setU; rw [h]
theorem Rel.turn (hr : Rel U Y) {i : Nat} (hi : i < Y.length) {x : Ses} (hx : alook U Y[i].id = some x) (hn : RelN x Y[i].l) {k : Nat} (hk : k < Y[i].l.length) {r : RN} (h1 : r.c = Y[i].l[k].c) (h2 : r.begun = Y[i].l[k].begun) :
    Rel (setU U Y[i].id Y[i].l[k].c (r.state, r.failed)) (Y.set i ⟨Y[i].id, Y[i].l.set k r, Y[i].na, Y[i].nc⟩) := by
  rw [setU_look hx]
  exact hr.set hi (y := ⟨Y[i].id, Y[i].l.set k r, Y[i].na, Y[i].nc⟩) rfl hx (hn.set hk h1 h2)
theorem RLeft.of {w1 w2 : World} (k1 : Kept [] w w1) {i : Nat} (hi : i < Y.length) {L : List RN} {U' : Log} (h2 : RAt w2 qb most delay a cap (Y.set i ⟨Y[i].id, L, Y[i].na, Y[i].nc⟩)) (hr : Rel U' (Y.set i ⟨Y[i].id, L, Y[i].na, Y[i].nc⟩)) (k2 : Kept (fp Y[i].na) w1 w2) : RLeft w w2 qb most delay a Y U' :=
  ⟨a, cap, _, h2, hr, (k1.mono (T := rdom qb a Y) (by simp)).step k2 (fun j hj => rdom_mem.2 (.inr (.inr ⟨_, List.getElem_mem hi, hj⟩))), fun j hj => .inl ((rdom_set hi).1 hj)⟩
/-- Which way a call of Done or Fail goes. -/
inductive EndW (Y : List RQ) (U : Log) (s c : Str) : Prop where
  | out : idx (eqR s) Y = -1 → noteAt U s c = none → EndW Y U s c
  | no (i : Nat) (hi : i < Y.length) : idx (eqR s) Y = i → NoneTo (eqN c) Y[i].l Y[i].l.length → noteAt U s c = none → EndW Y U s c
  | yes (i : Nat) (hi : i < Y.length) (k : Nat) (hk : k < Y[i].l.length) (x : Ses) : idx (eqR s) Y = i → NoneTo (eqN c) Y[i].l k → Y[i].id = s → Y[i].l[k].c = c → alook U s = some x → RelN x Y[i].l → noteAt U s c = some (Y[i].l[k].state, Y[i].l[k].failed) → EndW Y U s c
theorem endW (hr : Rel U Y) (hg : Good most delay U) (s c : Str) : EndW Y U s c := by
  rcases hr.look s with ⟨e, hn⟩ | ⟨i, hi, e, hs, x, hx, hrx⟩
  · exact .out e (by unfold noteAt; rw [hn]; rfl)
  · rcases hrx.look (hg.each _ (alook_some hx)).uniq c with ⟨h1, h2⟩ | ⟨k, hk, h1, h2, h3⟩
    · exact .no i hi e (fun j hj _ => h1 _ (List.getElem_mem _)) (by unfold noteAt; rw [hx]; exact h2)
    · exact .yes i hi k hk x e h2 hs h1 hx hrx (by unfold noteAt; rw [hx]; exact h3)
theorem eqN_self {c : Str} {r : RN} (h : r.c = c) : eqN c r = true := by unfold eqN; rw [h]; exact beq_self_eq_true c
set_option maxHeartbeats 4000000 in
theorem rdone_any (h : RAt w qb most delay a cap Y) (hr : Rel U Y) (hg : Good most delay U) (s c : ByteArray) (now : Int) :
    Calls Try.prog 19 #[.pointer (some ⟨qb, 0, none⟩), .string s, .string c, .int .i64 now] w fun e w' => e = .returned (.int .i64 (endE U s.data.toList c.data.toList)) ∧ RLeft w w' qb most delay a Y (endU doneN U s.data.toList c.data.toList) := by
  have HS := hid (RLeft.same h hr (Kept.refl [] w))
  have HX := hid (show endE U s.data.toList c.data.toList = match noteAt U s.data.toList c.data.toList with | none => 6 | some n => if n.1 = 1 then 0 else 12 from rfl)
  have HU := hid (show endU doneN U s.data.toList c.data.toList = match noteAt U s.data.toList c.data.toList with | none => U | some n => if n.1 = 1 then setU U s.data.toList c.data.toList (doneN n) else U from rfl)
  rcases endW hr hg s.data.toList c.data.toList with ⟨e, hn⟩ | ⟨i, hi, e, hnt, hn⟩ | ⟨i, hi, k, hk, x, e, hnt, hs, hc, hx, hrx, hn⟩
  · rw [hn] at HX HU
    rw [HX.out, HU.out]
    have HF := hid (find_out h s c e)
    clear h hr hg e hn
    go_enter Try.func19, Try.ntmps19
    go_wp2_with (go_at_call 48; refine HF.out.mono ?_; rintro e w' ⟨rfl, rfl⟩; unfold noV)
    go_ret
    exact ⟨rfl, HS.out⟩
  · rw [hn] at HX HU
    rw [HX.out, HU.out]
    have HF := hid (find_any h s c hi e hnt (.inl ⟨rfl, rfl⟩))
    clear h hr hg e hn hnt
    go_enter Try.func19, Try.ntmps19
    go_wp2_with (go_at_call 48; refine HF.out.mono ?_; rintro e w' ⟨rfl, rfl⟩; unfold noV)
    go_ret
    exact ⟨rfl, HS.out⟩
  · rw [hn] at HX HU
    have HF0 := find_any h s c hi e hnt (.inr ⟨hk, eqN_self hc, rfl⟩)
    by_cases hz : Y[i].l[k].state = 1
    · rw [if_pos hz] at HF0
      have HF := hid HF0
      rw [HX.out, HU.out]
      dsimp only
      rw [if_pos hz, if_pos hz]
      obtain ⟨b, eb, hb, _, _, _, n3, hfz⟩ := h.note hi hk
      have c2 := h.c2
      obtain ⟨g, rfl, hgz, _, d1⟩ := h.get hi
      have HL := hid (show RLeft w (w.setCell ⟨b, k * 4 + 3, none⟩ (.int .i64 2)) qb most delay (some ⟨g, 0, none⟩) Y (setU U s.data.toList c.data.toList (doneN (Y[i].l[k].state, Y[i].l[k].failed))) from by
        refine RLeft.of (Kept.refl [] w) hi (h.state hi eb hk 2) ?_ ((Kept.refl _ w).setCell (.inl (by rw [eb]; simp [fp])) _)
        have := hr.turn hi (by rw [hs]; exact hx) hrx hk (r := ⟨Y[i].l[k].c, Y[i].l[k].failed, Y[i].l[k].begun, 2⟩) rfl rfl
        rw [hs, hc] at this
        rw [hs, hc]
        exact this)
      have f3 := hfz (k * 4 + 3)
      have j1 : (0 : Int) ≤ i := by omega
      have j2 : (i : Int) < Y.length := by omega
      have k1 : (0 : Int) ≤ k := by omega
      have k2 : (k : Int) < Y[i].l.length := by omega
      rw [eb] at d1
      clear h hr hg e hn hnt hs hc hx hrx hfz HX HU HF0 eb
      generalize Y[i] = y at *
      generalize y.l[k] = r at *
      clear hz
      go_enter Try.func19, Try.ntmps19
      go_wp2_with (go_at_call 48; refine HF.out.mono ?_; rintro e w' ⟨rfl, rfl⟩)
      go_ret
      exact ⟨rfl, HL.out⟩
    · rw [if_neg hz] at HF0
      have HF := hid HF0
      rw [HX.out, HU.out]
      dsimp only
      rw [if_neg hz, if_neg hz]
      clear h hr hg e hn hnt hs hc hx hrx HX HU HF0 hz
      go_enter Try.func19, Try.ntmps19
      go_wp2_with (go_at_call 48; refine HF.out.mono ?_; rintro e w' ⟨rfl, rfl⟩; unfold noV)
      go_ret
      exact ⟨rfl, HS.out⟩
end
end Go.Proofs.Ytdikijbkfhimoaa
