/- Begin of the program. -/
import Derived.Test.YtdikijbkfhimoaaList
namespace Go.Proofs.Ytdikijbkfhimoaa
open Go.RowKit Go.Maps

def freshN (cl : List Str) : Notes := cl.map fun c => (c, ((0 : Int), 0))
def beginE (U : Log) (s : Str) (cl : List Str) : Int :=
  if wordB s = true then (if (alook U s).isSome = true then 7 else if listE cl ≠ 0 then listE cl else if 256 ≤ U.length then 3 else 0) else 5
def beginU (U : Log) (s : Str) (cl : List Str) (now : Int) : Log := if beginE U s cl = 0 then U ++ [(s, (lim now, freshN cl))] else U
theorem listE_ok {l : List Str} (h : listE l = 0) : l.length ≤ 256 ∧ (∀ c ∈ l, wordB c = true) ∧ l.Pairwise (· ≠ ·) := by
  unfold listE at h
  split at h
  · cases h
  · rename_i hl
    obtain ⟨h1, h2, _⟩ := listGo_ok l [] h
    exact ⟨by omega, h1, h2⟩
theorem freshN_uniq {l : List Str} (h : l.Pairwise (· ≠ ·)) : AUniq (freshN l) := by
  unfold AUniq freshN
  rw [List.pairwise_map]
  exact h
theorem freshN_put {l : List Str} (hp : l.Pairwise (· ≠ ·)) {k : Nat} (hk : k < l.length) : aput (freshN (l.take k)) l[k] ((0 : Int), 0) = freshN (l.take (k + 1)) := by
  have hn : alook (freshN (l.take k)) l[k] = none := by
    rw [alook_none]
    intro p hm
    unfold freshN at hm
    rw [List.mem_map] at hm
    obtain ⟨c, hc, rfl⟩ := hm
    obtain ⟨i, hi, rfl⟩ := List.getElem_of_mem hc
    rw [List.length_take] at hi
    rw [List.getElem_take]
    exact List.pairwise_iff_getElem.1 hp i k (by omega) hk (by omega)
  unfold aput
  rw [hn, List.take_succ_eq_append_getElem hk]
  unfold freshN
  rw [List.map_append]
  rfl
theorem fineS_fresh {most : Nat} (hm : 1 ≤ most) {l : List Str} (h : listE l = 0) (now : Int) : FineS most (lim now, freshN l) := by
  obtain ⟨h1, h2, h3⟩ := listE_ok h
  have hmem : ∀ p ∈ freshN l, p.1 ∈ l ∧ p.2 = ((0 : Int), 0) := fun p hp => by
    unfold freshN at hp
    rw [List.mem_map] at hp
    obtain ⟨c, hc, rfl⟩ := hp
    exact ⟨hc, rfl⟩
  refine ⟨lim_bd now, freshN_uniq h3, by unfold freshN; rw [List.length_map]; exact h1, fun p hp => ?_, fun p hp => h2 _ (hmem p hp).1⟩
  rw [(hmem p hp).2]
  exact ⟨.inl rfl, Nat.zero_le _, fun _ => hm, fun e => by simp at e⟩
theorem zeroEnd (w : World) : (zeroValue 69).run Try.prog w = .ok (.agg #[.int .i64 0, .map none]) w := by kernel_rfl
theorem zeroNot (w : World) : (zeroValue 73).run Try.prog w = .ok (.agg #[.int .i64 0, .int .i64 0]) w := by kernel_rfl
/-- What a lookup of a session gives. -/
def sval (o : Option SB) : Value := match o with | none => .agg #[.int .i64 0, .map none] | some x => sesV x
theorem LogAt.look {w : World} {lb mb most delay : Nat} {X : SBs} (h : LogAt w lb mb most delay X) (s : ByteArray) (hs : s.size ≤ maxLen) :
    (Instr.lookup 55 (.map (some mb)) (.string s) false).run Try.prog w = .ok (sval (alook X s.data.toList)) w := by
  rw [h.map.look lawS Try.underlying9 Try.underlying55 (zeroEnd w) s hs, rlook_sent]
  cases alook X s.data.toList <;> rfl
theorem LogAt.look_ok {w : World} {lb mb most delay : Nat} {X : SBs} (h : LogAt w lb mb most delay X) (s : ByteArray) (hs : s.size ≤ maxLen) :
    (Instr.lookup 55 (.map (some mb)) (.string s) true).run Try.prog w = .ok (.tuple #[sval (alook X s.data.toList), .bool (alook X s.data.toList).isSome]) w := by
  rw [h.map.look_ok lawS Try.underlying9 Try.underlying55 (zeroEnd w) s hs, rlook_sent]
  cases alook X s.data.toList <;> rfl
theorem LogAt.lenrun {w : World} {lb mb most delay : Nat} {X : SBs} (h : LogAt w lb mb most delay X) (ty : TypeId) : (Builtin.len_ #[55] ty #[.map (some mb)]).run Try.prog w = .ok (.int .i64 X.length) w := by
  rw [h.map.len Try.underlying55 ty, List.length_map]
/-- A new session is stored. -/
theorem LogAt.start {w w1 : World} {lb mb most delay : Nat} {X : SBs} (h : LogAt w lb mb most delay X) (s : ByteArray) (hs : s.size ≤ maxLen) (hn : alook X s.data.toList = none) (hl : X.length < 256) {x : SB} (kp : Kept [] w w1) (hm : MapS w1 x.1 (x.2.2.map nent)) (hd : w.heap.size ≤ x.1) (hf : FineS most x.2) (hw : wordB s.data.toList = true) :
    ∃ w', (Instr.mapUpdate 55 (.map (some mb)) (.string s) (sesV x)).run Try.prog w1 = .ok () w' ∧ Left w w' lb mb most delay X (absL X ++ [(s.data.toList, x.2)]) := by
  have hw1 : LogAt w1 lb mb most delay X := h.keptN kp
  obtain ⟨w', hr, hm', hk', hsz⟩ := hw1.map.put lawS Try.underlying9 Try.underlying55 (by rw [List.length_map]; unfold maxLen; omega) s hs (sesV x)
  rw [rput_sent] at hm'
  have hap : aput X s.data.toList x = X ++ [(s.data.toList, x)] := by unfold aput; rw [hn]; rfl
  rw [hap] at hm'
  have hnU : alook (absL X) s.data.toList = none := by rw [absL_look, hn]; rfl
  have habs : absL (X ++ [(s.data.toList, x)]) = absL X ++ [(s.data.toList, x.2)] := by simp [absL]
  have hlt : mb < w.heap.size := h.map.lt
  refine ⟨w', hr, X ++ [(s.data.toList, x)], ⟨hk'.at hw1.blk (by simpa using hw1.lbm), hm', fun p hp => ?_, ?_, fun p hp => ?_, ?_⟩, habs, ?_, fun i hi => ?_⟩
  · rcases List.mem_append.1 hp with hp | hp
    · exact (hw1.each p hp).kept hk' (by simpa using h.out p hp)
    · rw [List.mem_singleton.1 hp]; exact hm.kept hk' (by simp; omega)
  · refine List.pairwise_append.2 ⟨h.apart, by simp, fun a ha b hb => ?_⟩
    rw [List.mem_singleton.1 hb]
    have := (h.each a ha).lt
    show a.2.1 ≠ x.1
    omega
  · rcases List.mem_append.1 hp with hp | hp
    · exact h.out p hp
    · rw [List.mem_singleton.1 hp]; show x.1 ≠ mb; omega
  · rw [habs]
    refine ⟨h.good.rm, h.good.rd, List.pairwise_append.2 ⟨h.good.uniq, by simp, fun a ha b hb => ?_⟩, by simp [absL_len]; omega, fun p hp => ?_, fun p hp => ?_⟩
    · rw [List.mem_singleton.1 hb]
      exact alook_none.1 hnU a ha
    · rcases List.mem_append.1 hp with hp | hp
      · exact h.good.each p hp
      · rw [List.mem_singleton.1 hp]; exact hf
    · rcases List.mem_append.1 hp with hp | hp
      · exact h.good.word p hp
      · rw [List.mem_singleton.1 hp]; exact hw
  · exact (kp.mono (T := ldom lb mb X) (by simp)).step (hk'.mono (T := [mb]) (by simp)) (fun i hi => by simp at hi; rw [hi]; exact ldom_mem.2 (.inr (.inl rfl)))
  · rcases ldom_mem.1 hi with e | e | ⟨p, hp, e⟩
    · exact .inl (ldom_mem.2 (.inl e))
    · exact .inl (ldom_mem.2 (.inr (.inl e)))
    · rcases List.mem_append.1 hp with hp | hp
      · exact .inl (ldom_mem.2 (.inr (.inr ⟨p, hp, e⟩)))
      · rw [List.mem_singleton.1 hp] at e; right; rw [← e]; exact hd

set_option maxHeartbeats 4000000 in
set_option maxRecDepth 100000 in
theorem begin_any {w : World} {lb mb most delay : Nat} {X : SBs} (h : LogAt w lb mb most delay X) (s : ByteArray) (hs : s.size ≤ maxLen) {a : Option Addr} {cap : Nat} {cl : List Str} (hcl : StrsAt w a cl) (hz : ∀ c ∈ cl, c.length ≤ 1000000) (hcap : cl.length ≤ cap) (now : Int) :
    Calls Try.prog 13 #[.pointer (some ⟨lb, 0, none⟩), .string s, .slice a cl.length cap, .int .i64 now] w fun e w' => e = .returned (.int .i64 (beginE (absL X) s.data.toList cl)) ∧ Left w w' lb mb most delay X (beginU (absL X) s.data.toList cl now) := by
  have c2 := h.c2
  have HH := hid h
  have hlk := h.look_ok s hs
  have H1 := hid (word_any s w hs)
  have EU := hid (show beginU (absL X) s.data.toList cl now = if beginE (absL X) s.data.toList cl = 0 then absL X ++ [(s.data.toList, (lim now, freshN cl))] else absL X from rfl)
  have EE := hid (show beginE (absL X) s.data.toList cl = if wordB s.data.toList = true then (if (alook (absL X) s.data.toList).isSome = true then 7 else if listE cl ≠ 0 then listE cl else if 256 ≤ (absL X).length then 3 else 0) else 5 from rfl)
  cases w1 : wordB s.data.toList with
  | false =>
    have E := hid (show beginE (absL X) s.data.toList cl = 5 by rw [EE.out, w1]; rfl)
    have EV := hid (show beginU (absL X) s.data.toList cl now = absL X by rw [EU.out, E.out]; rfl)
    rw [w1] at H1
    rw [E.out, EV.out]
    clear h hlk w1 hcl hz EU EE
    go_enter Try.func13, Try.ntmps13
    go_wp2_with (first
      | (go_at_call 34; refine (ready_any c2).mono ?_; rintro e w' ⟨rfl, rfl⟩)
      | (go_at_call 31; refine H1.out.mono ?_; rintro e w' ⟨rfl, rfl⟩))
    go_ret
    exact ⟨rfl, Left.same HH.out (Kept.refl _ _)⟩
  | true =>
    rw [w1] at H1 EE
    simp only [if_true] at EE
    have HW1 := hid w1
    clear w1
    cases hq : alook X s.data.toList with
    | some x =>
      have E := hid (show beginE (absL X) s.data.toList cl = 7 by rw [EE.out, absL_look, hq]; rfl)
      have EV := hid (show beginU (absL X) s.data.toList cl now = absL X by rw [EU.out, E.out]; rfl)
      rw [hq] at hlk
      unfold sval sesV at hlk
      rw [E.out, EV.out]
      clear h hq hcl hz EU EE
      go_enter Try.func13, Try.ntmps13
      go_wp2_with (first
        | (go_at_call 34; refine (ready_any c2).mono ?_; rintro e w' ⟨rfl, rfl⟩)
        | (go_at_call 31; refine H1.out.mono ?_; rintro e w' ⟨rfl, rfl⟩))
      go_ret
      refine ⟨rfl, Left.same HH.out ?_⟩
      exact (Kept.refl [] w).alloc _
    | none =>
      rw [absL_look, hq] at EE
      rw [hq] at hlk
      unfold sval at hlk
      have HQ := hid hq
      have HL := hid (fun o => listError_any (w := w.alloc o) (cap := cap) (hcl.keptN ((Kept.refl [] w).alloc o)) hz hcap)
      have hln := fun o => (h.keptN ((Kept.refl [] w).alloc o)).lenrun
      have hc2 := fun o => (h.keptN ((Kept.refl [] w).alloc o)).c2
      simp only [Option.map_none, Option.isSome_none, absL_len] at EE
      by_cases hE : listE cl = 0
      · by_cases hX : 256 ≤ X.length
        · have E := hid (show beginE (absL X) s.data.toList cl = 3 by rw [EE.out, hE]; simp [hX])
          have EV := hid (show beginU (absL X) s.data.toList cl now = absL X by rw [EU.out, E.out]; rfl)
          rw [E.out, EV.out]
          rw [hE] at HL
          have i1 : (256 : Int) ≤ X.length := by omega
          clear h hq hcl hz EU EE hE hX
          go_enter Try.func13, Try.ntmps13
          go_wp2_with (first
            | (go_at_call 34; refine (ready_any c2).mono ?_; rintro e w' ⟨rfl, rfl⟩)
            | (go_at_call 31; refine H1.out.mono ?_; rintro e w' ⟨rfl, rfl⟩)
            | (go_at_call 35; refine (HL.out _).mono ?_; rintro e w' ⟨rfl, rfl⟩))
          go_ret
          refine ⟨rfl, Left.same HH.out ?_⟩
          exact (Kept.refl [] w).alloc _
        · have E := hid (show beginE (absL X) s.data.toList cl = 0 by rw [EE.out, hE]; simp [hX])
          have EV := hid (show beginU (absL X) s.data.toList cl now = absL X ++ [(s.data.toList, (lim now, freshN cl))] by rw [EU.out, E.out]; rfl)
          rw [E.out, EV.out]
          rw [hE] at HL
          have HE := hid hE
          have HX := hid (show X.length < 256 by omega)
          have i1 : decide ((256 : Int) ≤ X.length) = false := decide_eq_false (by omega)
          have hmm := @run_makeMap Try.prog
          have HHC := hid hcl
          have HZ := hid hz
          have HB := hid (lim_bd now)
          have hlen : cl.length ≤ 256 := (listE_ok hE).1
          have HP := hid (listE_ok hE).2.2
          have hl1 : (cl.length : Int) ≤ 256 := by omega
          clear h hq hcl hz EU EE hE hX
          go_enter Try.func13, Try.ntmps13
          go_wp2_with (first
            | (go_at_call 34; refine (ready_any c2).mono ?_; rintro e w' ⟨rfl, rfl⟩)
            | (go_at_call 31; refine H1.out.mono ?_; rintro e w' ⟨rfl, rfl⟩)
            | (go_at_call 35; refine (HL.out _).mono ?_; rintro e w' ⟨rfl, rfl⟩)
            | (go_at_call 32; refine (add0_any _ _).mono ?_; rintro e w' ⟨rfl, rfl⟩))
          go_loopw [14, 48] (fun _ iv wr => ∃ k : Nat, k ≤ cl.length ∧ iv = .int .i64 (k : Int) ∧ MapS wr (w.heap.size + 1) ((freshN (cl.take k)).map nent) ∧ wr.cell? ⟨w.heap.size + 2, 0, none⟩ = some (.int .i64 (lim now)) ∧ wr.cell? ⟨w.heap.size + 2, 1, none⟩ = some (.map (some (w.heap.size + 1))) ∧ Kept [] w wr ∧ w.heap.size + 3 ≤ wr.heap.size) (fun _ iv _ => cl.length - (intOf iv).toNat)
          case atStart =>
            have hb3 := heap_alloc_new ((w.alloc (Obj.cells #[Value.int IntKind.i64 0, Value.map none] 69)).alloc (Obj.map #[] 0)) (Obj.cells #[Value.int IntKind.i64 (lim now), Value.map (some (w.heap.size + 1))] 69)
            have hb4 := ((RawMap.made (P := Try.prog) (ks := 9) (w.alloc (Obj.cells #[Value.int IntKind.i64 0, Value.map none] 69)))).kept ((Kept.refl [] _).alloc (Obj.cells #[Value.int IntKind.i64 (lim now), Value.map (some (w.heap.size + 1))] 69)) (by simp)
            have e1 : (w.alloc (Obj.cells #[Value.int IntKind.i64 0, Value.map none] 69)).heap.size = w.heap.size + 1 := by simp
            have e2 : ((w.alloc (Obj.cells #[Value.int IntKind.i64 0, Value.map none] 69)).alloc (Obj.map #[] 0)).heap.size = w.heap.size + 2 := by simp
            rw [e2] at hb3
            rw [e1] at hb4
            exact ⟨0, Nat.zero_le _, rfl, by simpa [freshN] using hb4, by rw [cell_at hb3]; rfl, by rw [cell_at hb3]; rfl, (((Kept.refl [] w).alloc _).alloc _).alloc _, by simp⟩
          case round =>
            obtain ⟨k, hk, rfl, hM, d0, d1, hK, hsz⟩ := hrel
            by_cases hlt : k < cl.length
            · obtain ⟨b, off, rfl, hb, hc⟩ := HHC.out.get hlt
              have hcw := (hK.cell (p := ⟨b, off + k, none⟩) hb (by simp)).trans hc
              unfold sV at hcw
              have hz1 := HZ.out _ (List.getElem_mem hlt)
              obtain ⟨w9, hr9, hM9, hK9, hs9⟩ := hM.put lawS Try.underlying9 Try.underlying67 (by simp [freshN, maxLen]; omega) ⟨cl[k].toArray⟩ (by simp [ByteArray.size, maxLen]; omega) (noteV ((0 : Int), 0))
              rw [sized, rput_nent, freshN_put HP.out hlt] at hM9
              have hr8 : (Instr.mapUpdate 67 (.map (some (w.heap.size + 1))) (.string ⟨cl[k].toArray⟩) (.agg #[.int .i64 0, .int .i64 0])).run Try.prog wr = .ok () w9 := hr9
              clear hr9
              have e0 := (hK9.cell (p := ⟨w.heap.size + 2, 0, none⟩) (by show w.heap.size + 2 < _; omega) (by simp)).trans d0
              have e1 := (hK9.cell (p := ⟨w.heap.size + 2, 1, none⟩) (by show w.heap.size + 2 < _; omega) (by simp)).trans d1
              have hK1 := hid (hK.trans hK9 (fun i hi => .inr (by simp at hi; omega)))
              have hb1 : (0 : Int) ≤ k := by omega
              have hb2 : (k : Int) < cl.length := by omega
              have HM9 := hid hM9
              have HD := hid (And.intro e0 e1)
              clear hM hM9 hc hK9 e0 e1
              generalize cl[k] = c at *
              go_wp2_with fail
              go_round
              case rel => exact ⟨k + 1, by omega, by go_num, HM9.out, HD.out.1, HD.out.2, hK1.out, by omega⟩
              case measure => simp [intOf]; omega
            · have hkl : k = cl.length := by omega
              subst hkl
              rw [List.take_length] at hM
              obtain ⟨w9, hr9, hL9⟩ := HH.out.start s hs HQ.out HX.out (x := (w.heap.size + 1, lim now, freshN cl)) hK.drew (hM.kept ((Kept.refl [] wr).drew) (by simp)) (by show w.heap.size ≤ w.heap.size + 1; omega) (fineS_fresh (HH.out.good.rm.1) HE.out now) HW1.out
              have hr8 : (Instr.mapUpdate 55 (.map (some mb)) (.string s) (.agg #[.int .i64 (lim now), .map (some (w.heap.size + 1))])).run Try.prog wr.drew = .ok () w9 := hr9
              have HF := hid hL9
              have c2w := (HH.out.keptN hK).c2
              clear hr9 hL9 hM
              go_wp2_with fail
              go_region
              go_wp2_with fail
              go_ret
              exact ⟨rfl, HF.out⟩
      · have E := hid (show beginE (absL X) s.data.toList cl = listE cl by rw [EE.out]; simp [hE])
        have EV := hid (show beginU (absL X) s.data.toList cl now = absL X by rw [EU.out, E.out, if_neg hE])
        rw [E.out, EV.out]
        generalize listE cl = v at *
        have i1 : decide (v = 0) = false := decide_eq_false hE
        clear h hq hcl hz EU EE
        go_enter Try.func13, Try.ntmps13
        go_wp2_with (first
          | (go_at_call 34; refine (ready_any c2).mono ?_; rintro e w' ⟨rfl, rfl⟩)
          | (go_at_call 31; refine H1.out.mono ?_; rintro e w' ⟨rfl, rfl⟩)
          | (go_at_call 35; refine (HL.out _).mono ?_; rintro e w' ⟨rfl, rfl⟩))
        go_ret
        refine ⟨rfl, Left.same HH.out ?_⟩
        exact (Kept.refl [] w).alloc _
end Go.Proofs.Ytdikijbkfhimoaa
