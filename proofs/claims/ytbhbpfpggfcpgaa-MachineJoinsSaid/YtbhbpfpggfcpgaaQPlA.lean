/-
machine.Play and reclaimref03's Play at every script: the same run, the same number.
-/
import Derived.Test.YtbhbpfpggfcpgaaQPlE
import Derived.Test.YtbhbpfpggfcpgaaQFit
namespace Go.Proofs.Ytbhbpfpggfcpgaa
open Go.ChangeShapes Go.WideShapes Go.ChangeAt Go.RowKit Go.Shelf

/-- what a script comes to -/
def playOut (th : Int) (l : List Int) (ms : List Mv) : RunS × Int :=
  if th < 1 ∨ 16 < th then (⟨[], [], [], []⟩, 1) else if 8192 < l.length ∨ 65536 < ms.length then (⟨[], [], [], []⟩, 3) else (refRun l th.toNat ms, 0)
/-- a run in memory that was not there in w -/
def RunNew (w w' : World) (x : RunVs) (r : RunS) : Prop := ∀ W, Only (fun k => k < w.heap.size) w' W → RunSrc W x r
theorem RunNew.src {w w' : World} {x : RunVs} {r : RunS} (h : RunNew w w' x r) : RunSrc w' x r := h w' (Only.refl _ _)
theorem RunNew.of {w w' : World} {x : RunVs} {r : RunS} (h : RunAt w' w.heap.size x r) : RunNew w w' x r := fun W ho => (h.of_block fun k hk => ho.block k (h.lt k hk).2 (by have := (h.lt k hk).1; omega)).src
def PlayOut (w : World) (p : RunS × Int) (e : Ending) (w' : World) : Prop := ∃ x : RunVs, e = .returned (.tuple #[x.v, .int .i64 p.2]) ∧ RunNew w w' x p.1 ∧ Only (fun _ => False) w w'
def RunS.small (r : RunS) : Prop := r.calls.length ≤ 1000000 ∧ r.trace.length ≤ 1000000 ∧ r.shifts.length ≤ 1000000 ∧ r.words.length ≤ 1000000
theorem refRun_small (l : List Int) (n : Nat) (ms : List Mv) (hl : l.length ≤ 8192) (hms : ms.length ≤ 65536) : RunS.small (refRun l n ms) := by
  have hc := os_lens l n ms hms
  have hw := (inv_of l n ms hms).wlen
  refine ⟨?_, ?_, ?_, ?_⟩
  · show (osOf l n ms).calls.length ≤ _; omega
  · show (osOf l n ms).log.length ≤ _; omega
  · show ([] : List Shf).length ≤ _; simp
  · show (osOf l n ms).words.length ≤ _; omega
theorem playOut_small (th : Int) (l : List Int) (ms : List Mv) : RunS.small (playOut th l ms).1 := by
  unfold playOut
  split
  · exact ⟨by simp, by simp, by simp, by simp⟩
  · split
    · exact ⟨by simp, by simp, by simp, by simp⟩
    · rename_i h1 h2
      exact refRun_small _ _ _ (by omega) (by omega)
def zeroX : RunVs := ⟨.slice none 0 0, .slice none 0 0, .slice none 0 0, .slice none 0 0⟩
theorem zero_src (w : World) : RunSrc w zeroX ⟨[], [], [], []⟩ := ⟨⟨rfl, .inl ⟨rfl, rfl⟩⟩, ⟨rfl, .inl ⟨rfl, rfl⟩⟩, ⟨rfl, .inl ⟨rfl, rfl⟩⟩, ⟨rfl, .inl ⟨rfl, rfl⟩⟩⟩
theorem mvs_form {w : World} {vm : Value} {ms : List Mv} (h : MvsIn w vm ms) : ∃ o c, vm = .slice o ms.length c ∧ ms.length ≤ 9223372036854775807 := by
  obtain ⟨o, c, e, h1, h2, _⟩ := h
  unfold maxLen at h2
  exact ⟨o, c, e, by omega⟩
theorem play_any {w : World} (th : Int) {vx vm : Value} {l : List Int} {ms : List Mv} (hs : w.Src 1 vx l.length (u64s l)) (hl : l.length ≤ 9223372036854775807) (hm : MvsIn w vm ms) :
    Calls Try.prog 21 #[.int .i64 th, vx, vm] w (PlayOut w (playOut th l ms)) := by
  obtain ⟨ox, cx, rfl⟩ := hs.form
  obtain ⟨om, cm, rfl, hm2⟩ := mvs_form hm
  unfold playOut
  by_cases h1 : th < 1 ∨ 16 < th
  · rw [if_pos h1]
    exact (play_bad th ox om _ _ _ _ h1).mono fun e w' ⟨he, hb⟩ => ⟨zeroX, he, fun _ _ => zero_src _, Below.only0 hb⟩
  · rw [if_neg h1]
    by_cases h2 : 8192 < l.length ∨ 65536 < ms.length
    · rw [if_pos h2]
      rcases Nat.lt_or_ge 8192 l.length with h3 | h3
      · exact (play_long1 th ox om _ _ _ _ (by omega) (by omega) h3 hl).mono fun e w' ⟨he, hb⟩ => ⟨zeroX, he, fun _ _ => zero_src _, Below.only0 hb⟩
      · obtain ⟨n, rfl⟩ : ∃ n : Nat, th = (n : Int) := ⟨th.toNat, by omega⟩
        exact (play_long2 n om _ _ hs h3 (by omega) (by omega) (by omega) hm2).mono fun e w' ⟨he, hb⟩ => ⟨zeroX, he, fun _ _ => zero_src _, hb⟩
    · rw [if_neg h2]
      obtain ⟨n, rfl⟩ : ∃ n : Nat, th = (n : Int) := ⟨th.toNat, by omega⟩
      rw [Int.toNat_natCast]
      refine (play_ok n hs (by omega) hm (by omega) (by omega) (by omega)).mono ?_
      rintro e w' ⟨x, he, hr, ho⟩
      rw [own_os] at hr
      exact ⟨x, he, .of hr, ho⟩
theorem rplay_any {w : World} (th : Int) {vx vm : Value} {l : List Int} {ms : List Mv} (hs : w.Src 1 vx l.length (u64s l)) (hl : l.length ≤ 9223372036854775807) (hm : MvsIn w vm ms) :
    Calls Try.prog 22 #[.int .i64 th, vx, vm] w (PlayOut w (playOut th l ms)) := by
  obtain ⟨ox, cx, rfl⟩ := hs.form
  obtain ⟨om, cm, rfl, hm2⟩ := mvs_form hm
  unfold playOut
  by_cases h1 : th < 1 ∨ 16 < th
  · rw [if_pos h1]
    exact (rplay_bad th ox om _ _ _ _ h1).mono fun e w' ⟨he, hb⟩ => ⟨zeroX, he, fun _ _ => zero_src _, Below.only0 hb⟩
  · rw [if_neg h1]
    by_cases h2 : 8192 < l.length ∨ 65536 < ms.length
    · rw [if_pos h2]
      exact (rplay_long th ox om _ _ _ _ (by omega) (by omega) h2 hl hm2).mono fun e w' ⟨he, hb⟩ => ⟨zeroX, he, fun _ _ => zero_src _, Below.only0 hb⟩
    · rw [if_neg h2]
      obtain ⟨n, rfl⟩ : ∃ n : Nat, th = (n : Int) := ⟨th.toNat, by omega⟩
      rw [Int.toNat_natCast]
      refine (rplay_ok n hs (by omega) hm (by omega) (by omega) (by omega)).mono ?_
      rintro e w' ⟨x, he, hr, ho⟩
      exact ⟨x, he, .of hr, ho⟩
theorem RunSrc.only {w w' : World} {x : RunVs} {r : RunS} (h : RunSrc w x r) (ho : Only (fun _ => False) w w') : RunSrc w' x r := ⟨h.wa.only ho, h.wt.only ho, h.wb.only ho, h.wc.only ho⟩
theorem RunSrc.forms {w : World} {x : RunVs} {r : RunS} (h : RunSrc w x r) : ∃ oa ca ot ct ob cb oc cc, x = ⟨.slice oa r.calls.length ca, .slice ot r.trace.length ct, .slice ob r.shifts.length cb, .slice oc r.words.length cc⟩ := by
  obtain ⟨x1, x2, x3, x4⟩ := x
  obtain ⟨o1, c1, e1⟩ := h.wa.form
  obtain ⟨o2, c2, e2⟩ := h.wt.form
  obtain ⟨o3, c3, e3⟩ := h.wb.form
  obtain ⟨o4, c4, e4⟩ := h.wc.form
  simp only at e1 e2 e3 e4
  subst e1 e2 e3 e4
  exact ⟨_, _, _, _, _, _, _, _, rfl⟩
end Go.Proofs.Ytbhbpfpggfcpgaa
