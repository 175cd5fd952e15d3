/-
word.Addr: a place's address.
word.Unlink, Unhead, Link, Head at every number, as the arena's parts ask them.
What a part's method works at (Tr): the machine in a step, the desk, the arena, the part's own block; what such a method leaves (TrOut).
The arena's calls step by step, as one relation (AStep), and what always holds (AInv). Plain.
What a step of the arena's calls computes is AStep. Plain.
-/
import Derived.Test.YtjcggokhminmoaaQAddrB
import Derived.Test.YtjcggokhminmoaaQArP
import Derived.Test.YtjcggokhminmoaaQMchE
namespace Go.Proofs.Ytjcggokhminmoaa
open Go.ChangeShapes Go.WideShapes Go.ChangeAt Go.RowKit

theorem addr_ok (a0 a1 a2 a3 a4 a5 a6 r i k : Int) (h : okCfg a0 a1 a2 a3 a4 a5 a6 = true) (ho : addrOk a1 a2 a5 a6 r i k = true) (w : World) : Calls Try.prog 59 #[.agg #[.int .i64 a0, .int .i64 a1, .int .i64 a2, .int .i64 a3, .int .i64 a4, .int .i64 a5, .int .i64 a6], .agg #[.int .i64 r, .int .i64 i, .int .i64 k]] w fun e w' =>
    e = .returned (.tuple #[.int .i64 (addrAt a1 a2 a5 a6 r i k), .int .i64 0]) ∧ Below w.heap.size w w' := by
  unfold addrAt
  by_cases h9 : r = 9
  · subst h9
    simp [addrOk] at ho
    exact addr_nine a0 a1 a2 a3 a4 a5 a6 i k h (by omega) (by omega) (by omega) (by omega) w
  · simp [addrOk, h9] at ho
    obtain ⟨⟨⟨⟨h0, h1⟩, h2⟩, h3⟩, rfl, h4⟩ := ho
    rw [if_neg h9]
    exact addr_one a0 a1 a2 a3 a4 a5 a6 r i (r - 1).toNat (show r = _ by omega) h h0 h1 h9 h2 h4 w

theorem addr_bad (a0 a1 a2 a3 a4 a5 a6 r i k : Int) (h : okCfg a0 a1 a2 a3 a4 a5 a6 = true) (ho : addrOk a1 a2 a5 a6 r i k = false) (w : World) : Calls Try.prog 59 #[.agg #[.int .i64 a0, .int .i64 a1, .int .i64 a2, .int .i64 a3, .int .i64 a4, .int .i64 a5, .int .i64 a6], .agg #[.int .i64 r, .int .i64 i, .int .i64 k]] w fun e w' =>
    e = .returned (.tuple #[.int .i64 0, .int .i64 2]) ∧ Below w.heap.size w w' := by
  by_cases hr : r < 1 ∨ 13 < r
  · exact addr_noreg a0 a1 a2 a3 a4 a5 a6 r i k h hr w
  by_cases hi : i < 0
  · exact addr_neg a0 a1 a2 a3 a4 a5 a6 r i k h (by omega) (by omega) hi w
  by_cases hk : k < 0
  · exact addr_neg2 a0 a1 a2 a3 a4 a5 a6 r i k h (by omega) (by omega) (by omega) hk w
  by_cases h9 : r = 9
  · subst h9
    simp [addrOk] at ho
    by_cases hf : a2 ≤ k
    · exact addr_9k a0 a1 a2 a3 a4 a5 a6 i k h (by omega) (by omega) hf w
    · exact addr_9i a0 a1 a2 a3 a4 a5 a6 i k h (by omega) (by omega) (by omega) (by
        rcases Int.lt_or_le i a1 with hl | hl
        · exact absurd (ho (by omega) (by omega) hl) (by omega)
        · exact hl) w
  · by_cases hz : k = 0
    · subst hz
      simp [addrOk, h9] at ho
      exact addr_far a0 a1 a2 a3 a4 a5 a6 r i h (by omega) (by omega) h9 (by omega) (ho (by omega) (by omega) (by omega)) w
    · exact addr_k a0 a1 a2 a3 a4 a5 a6 r i k h (by omega) (by omega) h9 (by omega) (by omega) w

end Go.Proofs.Ytjcggokhminmoaa
namespace Go.Proofs.Ytjcggokhminmoaa
open Go.ChangeShapes Go.WideShapes Go.ChangeAt Go.RowKit

theorem bits_in (op : BinOp) (x y : Int) : bits op .u64 x y = bits op .u64 (x % 18446744073709551616) y := by
  have h : BitVec.ofInt 64 x = BitVec.ofInt 64 (x % 18446744073709551616) := by
    apply BitVec.eq_of_toInt_eq
    simp [BitVec.toInt_ofInt, Int.bmod_def]
  have h2 : BitVec.ofInt IntKind.u64.bits x = BitVec.ofInt IntKind.u64.bits (x % 18446744073709551616) := h
  unfold bits
  rw [h2]
theorem and_low_all (v : Int) : bits .and .u64 v 4294967295 = v % 4294967296 := by
  rw [bits_in, and_low _ (Int.emod_nonneg _ (by decide)) (by have := Int.emod_lt_of_pos v (show (0 : Int) < 18446744073709551616 by decide); omega)]
  omega
/-- Unlink, whatever the number -/
theorem unlink_all (v : Int) : ∃ (m : Bool) (er : Int), ∀ w, Calls Try.prog 104 #[.int .u64 v] w fun e w' => e = .returned (.tuple #[.int .i64 (lIdx v), .bool m, .int .i64 er]) ∧ w = w' := by
  by_cases h0 : 0 ≤ v
  · cases h : isLink v with
    | true =>
      have h1 : v ≤ 18446744073709551615 := by simp [isLink] at h; omega
      refine ⟨linkMark v, 0, fun w => (unlink_ok v w h0 h1 h).mono ?_⟩
      rintro e w' ⟨rfl, rfl⟩
      refine ⟨?_, rfl⟩
      unfold lIdx
      rw [h]
      simp [h0]
    | false =>
      have hl : lIdx v = 0 := by unfold lIdx; rw [h]; simp
      rw [hl]
      by_cases h1 : v ≤ 18446744073709551615
      · exact ⟨false, 10, fun w => unlink_bad v w h0 h1 h⟩
      · have hb := and_low_all v
        have hh : 8589934592 ≤ v := by omega
        refine ⟨false, 10, fun w => ?_⟩
        go_enter Try.func104, Try.ntmps104
        go_wp2
        all_goals
          go_ret3
          exact ⟨rfl, rfl⟩
  · have hl : lIdx v = 0 := by unfold lIdx; simp [h0]
    rw [hl]
    have hb := and_low_all v
    have hh : v / 8589934592 ≠ 0 := by omega
    refine ⟨false, 10, fun w => ?_⟩
    go_enter Try.func104, Try.ntmps104
    go_wp2
    all_goals
      go_ret3
      exact ⟨rfl, rfl⟩
theorem unhead_all (v : Int) : ∃ er : Int, ∀ w, Calls Try.prog 103 #[.int .u64 v] w fun e w' => e = .returned (.tuple #[.int .u32 (hTag v), .int .i64 (hIdx v), .int .i64 er]) ∧ w = w' := by
  have hb := and_low_all v
  have h0 : 0 ≤ v % 4294967296 := Int.emod_nonneg _ (by decide)
  have h1 := Int.emod_lt_of_pos v (show (0 : Int) < 4294967296 by decide)
  have hi : isLink (v % 4294967296) = isHead v := by
    unfold isLink isHead
    rw [Bool.eq_iff_iff]; simp; omega
  cases h : isHead v with
  | true =>
    have e1 : hTag v = IntKind.u32.wrap (v / 4294967296) := by
      unfold hTag
      rw [h]
      rfl
    have e2 : hIdx v = linkIndex (v % 4294967296) := by
      unfold hIdx
      rw [h, linkIndex_low]
      rfl
    rw [e1, e2]
    refine ⟨0, fun w => ?_⟩
    clear e1 e2
    go_enter Try.func103, Try.ntmps103
    go_wp2_with (go_at_call 104; refine (unlink_ok _ _ (by omega) (by omega) (by rw [hi]; exact h)).mono ?_; rintro e w' ⟨rfl, rfl⟩)
    go_ret3
    exact ⟨rfl, rfl⟩
  | false =>
    have e1 : hTag v = 0 := by
      unfold hTag
      rw [h]
      rfl
    have e2 : hIdx v = 0 := by
      unfold hIdx
      rw [h]
      rfl
    rw [e1, e2]
    refine ⟨10, fun w => ?_⟩
    clear e1 e2
    go_enter Try.func103, Try.ntmps103
    go_wp2_with (go_at_call 104; refine (unlink_bad _ _ (by omega) (by omega) (by rw [hi]; exact h)).mono ?_; rintro e w' ⟨rfl, rfl⟩)
    go_ret3
    exact ⟨rfl, rfl⟩
theorem link_all (i : Int) : ∃ er : Int, ∀ w, Calls Try.prog 110 #[.int .i64 i, .bool false] w fun e w' => e = .returned (.tuple #[.int .u64 (mkLink i), .int .i64 er]) ∧ w = w' := by
  by_cases h : -1 ≤ i ∧ i ≤ 2147483646
  · have e1 : mkLink i = packLink i false := by unfold mkLink; simp [h.1, h.2]
    rw [e1]
    exact ⟨_, fun w => link_ok i false w h.1 h.2⟩
  · have e1 : mkLink i = 0 := by
      unfold mkLink
      rw [if_neg (by simp; omega)]
    rw [e1]
    exact ⟨_, fun w => link_bad i false w (by omega)⟩
theorem head_all (t i : Int) (h3 : 0 ≤ t) (h4 : t ≤ 4294967295) : ∃ er : Int, ∀ w, Calls Try.prog 105 #[.int .u32 t, .int .i64 i] w fun e w' => e = .returned (.tuple #[.int .u64 (mkHead t i), .int .i64 er]) ∧ w = w' := by
  by_cases h : -1 ≤ i ∧ i ≤ 2147483646
  · have e1 : mkHead t i = packHead t i := by unfold mkHead; simp [h.1, h.2]
    rw [e1]
    exact ⟨_, fun w => head_ok t i w h.1 h.2 h3 h4⟩
  · have e1 : mkHead t i = 0 := by
      unfold mkHead
      rw [if_neg (by simp; omega)]
    rw [e1]
    exact ⟨_, fun w => head_bad t i w (by omega)⟩
theorem tagUp_bd (v : Int) : 0 ≤ tagUp v ∧ tagUp v ≤ 4294967295 := by
  unfold tagUp
  have : IntKind.u32.wrap (hTag v + 1) = (hTag v + 1) % 4294967296 := rfl
  rw [this]
  have h0 : 0 ≤ (hTag v + 1) % 4294967296 := Int.emod_nonneg _ (by decide)
  have h1 := Int.emod_lt_of_pos (hTag v + 1) (show (0 : Int) < 4294967296 by decide)
  omega
end Go.Proofs.Ytjcggokhminmoaa
namespace Go.Proofs.Ytjcggokhminmoaa
open Go.ChangeShapes Go.WideShapes Go.ChangeAt Go.RowKit

structure Tr (w : World) (base xb db ab tb : Nat) (st : MachS) (v : MachV) (s : ArS) (av : ArV) (o : Obj) : Prop where
  m : MachAt w base xb st v
  d : DeskBox w xb db
  a : ArAt w base ab s av
  t : w.heap[tb]? = some o
  ma : ∀ k, av.own ab k → ¬ v.own xb k
  md : ¬ v.own xb db
  ad : ¬ av.own ab db
  mt : ¬ v.own xb tb
  at' : ¬ av.own ab tb
  dt : db ≠ tb
structure TrStep (w : World) (base xb db ab tb : Nat) (v : MachV) (av : ArV) (st' : MachS) (s' : ArS) (o' : Obj) (v' : MachV) (av' : ArV) (w' : World) : Prop where
  tr : Tr w' base xb db ab tb st' v' s' av' o'
  only : Only (fun k => v.own xb k ∨ av.own ab k ∨ k = tb) w w'
  own : ∀ k, v'.own xb k → v.own xb k ∨ w.heap.size ≤ k
  aown : ∀ k, av'.own ab k → av.own ab k ∨ w.heap.size ≤ k
  vse : v'.vse = v.vse
  vca : v'.vca = v.vca
  mb : v'.mb = v.mb
  kit : v'.kit = v.kit
def TrOut (w : World) (base xb db ab tb : Nat) (v : MachV) (av : ArV) (st' : MachS) (s' : ArS) (o' : Obj) (w' : World) : Prop := ∃ v' av', TrStep w base xb db ab tb v av st' s' o' v' av' w'

section
variable {w w1 w2 : World} {base xb db ab tb : Nat} {st st1 st2 : MachS} {v v1 : MachV} {s s1 s2 : ArS} {av av1 : ArV} {o o1 o2 : Obj}
theorem Tr.lts (h : Tr w base xb db ab tb st v s av o) : (∀ k, v.own xb k → k < w.heap.size) ∧ (∀ k, av.own ab k → k < w.heap.size) ∧ db < w.heap.size ∧ tb < w.heap.size :=
  ⟨fun k hk => (h.m.lt k hk).2, fun k hk => (h.a.lt k hk).2, h.d.facts.2.2, (Array.getElem?_eq_some_iff.1 h.t).1⟩
theorem Tr.of_block (h : Tr w base xb db ab tb st v s av o) (hb : ∀ k, k < w.heap.size → w1.heap[k]? = w.heap[k]?) : Tr w1 base xb db ab tb st v s av o := by
  obtain ⟨l1, l2, l3, l4⟩ := h.lts
  exact ⟨h.m.of_block fun k hk => hb k (l1 k hk), h.d.of_block (hb _ l3), h.a.of_block fun k hk => hb k (l2 k hk), (hb _ l4).trans h.t, h.ma, h.md, h.ad, h.mt, h.at', h.dt⟩
theorem Tr.keep (h : Tr w base xb db ab tb st v s av o) (ho : Only (fun _ => False) w w1) : Tr w1 base xb db ab tb st v s av o := h.of_block fun k hk => ho.block k hk (fun x => x)
theorem Tr.below (h : Tr w base xb db ab tb st v s av o) (hb : Below w.heap.size w w1) : Tr w1 base xb db ab tb st v s av o := h.of_block hb.block
theorem Tr.more (h : Tr w base xb db ab tb st v s av o) (os : Array Obj) (d : Nat) : Tr (w.more os d) base xb db ab tb st v s av o := h.of_block fun _ hk => World.heap_more _ _ _ _ hk
theorem Tr.alloc (h : Tr w base xb db ab tb st v s av o) (x : Obj) : Tr (w.alloc x) base xb db ab tb st v s av o := h.of_block fun _ hk => Below.heap_alloc _ _ _ hk
theorem Tr.drew (h : Tr w base xb db ab tb st v s av o) : Tr w.drew base xb db ab tb st v s av o := h.of_block fun _ _ => rfl

theorem TrStep.refl (h : Tr w base xb db ab tb st v s av o) : TrStep w base xb db ab tb v av st s o v av w := ⟨h, Only.refl _ _, fun _ hk => .inl hk, fun _ hk => .inl hk, rfl, rfl, rfl, rfl⟩
theorem TrStep.keep (h : Tr w base xb db ab tb st v s av o) (ho : Only (fun _ => False) w w1) : TrStep w base xb db ab tb v av st s o v av w1 :=
  ⟨h.keep ho, ho.mono fun _ _ x => x.elim, fun _ hk => .inl hk, fun _ hk => .inl hk, rfl, rfl, rfl, rfl⟩
theorem TrStep.trans {v2 : MachV} {av2 : ArV} (h : TrStep w base xb db ab tb v av st1 s1 o1 v1 av1 w1) (k : TrStep w1 base xb db ab tb v1 av1 st2 s2 o2 v2 av2 w2) : TrStep w base xb db ab tb v av st2 s2 o2 v2 av2 w2 := by
  refine ⟨k.tr, h.only.trans k.only ?_, fun i hi => ?_, fun i hi => ?_, k.vse.trans h.vse, k.vca.trans h.vca, k.mb.trans h.mb, k.kit.trans h.kit⟩
  · rintro i (hi | hi | hi)
    · rcases h.own i hi with h1 | h1
      · exact .inl (.inl h1)
      · exact .inr h1
    · rcases h.aown i hi with h1 | h1
      · exact .inl (.inr (.inl h1))
      · exact .inr h1
    · exact .inl (.inr (.inr hi))
  · rcases k.own i hi with h1 | h1
    · exact h.own i h1
    · have := h.only.size; exact .inr (by omega)
  · rcases k.aown i hi with h1 | h1
    · exact h.aown i h1
    · have := h.only.size; exact .inr (by omega)
theorem TrStep.out (h : TrStep w base xb db ab tb v av st1 s1 o1 v1 av1 w1) : TrOut w base xb db ab tb v av st1 s1 o1 w1 := ⟨v1, av1, h⟩
theorem TrOut.step (h : TrOut w base xb db ab tb v av st1 s1 o1 w1) : ∃ v1 av1, TrStep w base xb db ab tb v av st1 s1 o1 v1 av1 w1 := h
theorem TrStep.then (h : TrStep w base xb db ab tb v av st1 s1 o1 v1 av1 w1) (k : TrOut w1 base xb db ab tb v1 av1 st2 s2 o2 w2) : TrOut w base xb db ab tb v av st2 s2 o2 w2 := by
  obtain ⟨v2, av2, k⟩ := k
  exact (h.trans k).out
theorem TrOut.pre {w0 : World} (hb : Only (fun _ => False) w0 w) (hk : Tr w0 base xb db ab tb st v s av o) (h : TrOut w base xb db ab tb v av st1 s1 o1 w1) : TrOut w0 base xb db ab tb v av st1 s1 o1 w1 := (TrStep.keep hk hb).then h
theorem TrOut.post (h : TrOut w base xb db ab tb v av st1 s1 o1 w1) (hb : Only (fun _ => False) w1 w2) : TrOut w base xb db ab tb v av st1 s1 o1 w2 := by
  obtain ⟨v1, av1, h⟩ := h
  exact h.then (TrStep.keep h.tr hb).out

/-- a desk's method -/
theorem Tr.desk (h : Tr w base xb db ab tb st v s av o) (hd : DeskOut w base xb v st1 w1) : TrOut w base xb db ab tb v av st1 s o w1 := by
  obtain ⟨v', h1, h2, h3, e1, e2, e3, e4⟩ := hd
  obtain ⟨l1, l2, l3, l4⟩ := h.lts
  have hn : ∀ k, k < w.heap.size → ¬ v.own xb k → ¬ v'.own xb k := fun k hk hv hv' => by
    rcases h3 k hv' with h | h
    · exact hv h
    · omega
  refine ⟨v', av, ⟨⟨h1, h.d.only h2 h.md, h.a.only h2 h.ma, (h2.block tb l4 h.mt).trans h.t, fun k hk => hn k (l2 k hk) (h.ma k hk), hn db l3 h.md, h.ad, hn tb l4 h.mt, h.at', h.dt⟩, h2.mono fun _ _ hk => .inl hk, h3, fun _ hk => .inl hk, e1, e2, e3, e4⟩⟩
/-- the arena's -/
theorem Tr.arena {F : Nat → Prop} (h : Tr w base xb db ab tb st v s av o) (ha : ArAt w1 base ab s1 av1) (ho : Only F w w1) (hF : ∀ k, F k → av.own ab k) (hn : ∀ k, av1.own ab k → av.own ab k ∨ w.heap.size ≤ k) : TrOut w base xb db ab tb v av st s1 o w1 := by
  obtain ⟨l1, l2, l3, l4⟩ := h.lts
  have hne : ∀ k, k < w.heap.size → ¬ av.own ab k → ¬ av1.own ab k := fun k hk hv hv' => by
    rcases hn k hv' with h | h
    · exact hv h
    · omega
  refine ⟨v, av1, ⟨⟨h.m.only ho (fun k hk hf => h.ma k (hF k hf) hk), h.d.only ho (fun hf => h.ad (hF _ hf)), ha, (ho.block tb l4 (fun hf => h.at' (hF _ hf))).trans h.t, fun k hk hv => ?_, h.md, hne db l3 h.ad, h.mt, hne tb l4 h.at', h.dt⟩, ho.mono fun k _ hk => .inr (.inl (hF k hk)), fun _ hk => .inl hk, hn, rfl, rfl, rfl, rfl⟩⟩
  rcases hn k hk with h1 | h1
  · exact h.ma k h1 hv
  · have := l1 k hv; omega
/-- the part's own block -/
theorem Tr.put (h : Tr w base xb db ab tb st v s av o) (ho : Only (fun k => k = tb) w w1) (ht : w1.heap[tb]? = some o1) : TrOut w base xb db ab tb v av st s o1 w1 := by
  refine ⟨v, av, ⟨⟨h.m.only ho (fun k hk e => h.mt (e ▸ hk)), h.d.only ho h.dt, h.a.only ho (fun k hk e => h.at' (e ▸ hk)), ht, h.ma, h.md, h.ad, h.mt, h.at', h.dt⟩, ho.mono fun _ _ hk => .inr (.inr hk), fun _ hk => .inl hk, fun _ hk => .inl hk, rfl, rfl, rfl, rfl⟩⟩
end

/-! the arena's reads -/
theorem has_any {w : World} {base ab : Nat} {s : ArS} {av : ArV} (H : ArAt w base ab s av) (k : Int) :
    Calls Try.prog 45 #[.pointer (some ⟨ab, 0, none⟩), .int .i64 k] w fun e w' => e = .returned (.bool (s.has k)) ∧ w = w' := by
  obtain ⟨c0, c1, c2, c3, c4, c5, c6, c7, c8, z, lt⟩ := H.head
  obtain ⟨o, c, e, h1, h2⟩ := H.rsl.form
  rw [e] at c7
  have HB : Hid (s.has k = (decide (0 ≤ k) && decide (k < (s.slots.length : Int)))) := Lib.hid rfl
  clear c0 c1 c2 c3 c4 c5 c6 c8 H
  by_cases h0 : 0 ≤ k
  all_goals
    go_enter Try.func45, Try.ntmps45
    go_wp2
    go_ret
    exact ⟨ret_bool (by rw [HB.out, Bool.eq_iff_iff]; simp <;> omega), rfl⟩
theorem thread_any {w : World} {base ab : Nat} {s : ArS} {av : ArV} (H : ArAt w base ab s av) (k : Int) :
    Calls Try.prog 43 #[.pointer (some ⟨ab, 0, none⟩), .int .i64 k] w fun e w' => e = .returned (.bool (s.thread k)) ∧ w = w' := by
  obtain ⟨c0, c1, c2, c3, c4, c5, c6, c7, c8, z, lt⟩ := H.head
  obtain ⟨o, c, e, h1, h2⟩ := H.rca.form
  rw [e] at c8
  have HB : Hid (s.thread k = (decide (0 ≤ k) && decide (k < (s.caches.length : Int)))) := Lib.hid rfl
  clear c0 c1 c2 c3 c4 c5 c6 c7 H
  by_cases h0 : 0 ≤ k
  all_goals
    go_enter Try.func43, Try.ntmps43
    go_wp2
    go_ret
    exact ⟨ret_bool (by rw [HB.out, Bool.eq_iff_iff]; simp <;> omega), rfl⟩
theorem aaddr_any {w : World} {base ab : Nat} {s : ArS} {av : ArV} (H : ArAt w base ab s av) (r i : Int) :
    Calls Try.prog 102 #[.pointer (some ⟨ab, 0, none⟩), .int .i64 r, .int .i64 i] w fun e w' => e = .returned (.int .i64 (s.addr r i)) ∧ Below w.heap.size w w' := by
  obtain ⟨c0, c1, c2, c3, c4, c5, c6, c7, c8, z, lt⟩ := H.head
  have HC : Hid (∀ W, ∃ er : Int, Calls Try.prog 59 #[.agg #[.int .i64 s.c0, .int .i64 s.c1, .int .i64 s.c2, .int .i64 s.c3, .int .i64 s.c4, .int .i64 s.c5, .int .i64 s.c6], .agg #[.int .i64 r, .int .i64 i, .int .i64 0]] W fun e w' => e = .returned (.tuple #[.int .i64 (s.addr r i), .int .i64 er]) ∧ Below W.heap.size W w') := Lib.hid (fun W => by
    unfold ArS.addr
    cases h : addrOk s.c1 s.c2 s.c5 s.c6 r i 0 with
    | true => rw [if_pos rfl]; exact ⟨_, addr_ok _ _ _ _ _ _ _ _ _ _ H.ok.cfg h W⟩
    | false => rw [if_neg (by decide)]; exact ⟨_, addr_bad _ _ _ _ _ _ _ _ _ _ H.ok.cfg h W⟩)
  clear c7 c8 H
  go_enter Try.func102, Try.ntmps102
  go_wp2_with (go_at_call 59; obtain ⟨er, hc⟩ := HC.out _; refine hc.mono ?_; rintro e w1 ⟨rfl, hb1⟩; obtain ⟨os, d, rfl⟩ := hb1.more; clear hb1)
  go_ret
  exact ⟨rfl, (by repeat (first | exact Below.refl _ _ | apply Below.drew | apply Below.more1 | apply Below.alloc1))⟩
theorem acfg_any {w : World} {base ab : Nat} {s : ArS} {av : ArV} (H : ArAt w base ab s av) :
    Calls Try.prog 15 #[.pointer (some ⟨ab, 0, none⟩)] w fun e w' => e = .returned (.agg #[.int .i64 s.c0, .int .i64 s.c1, .int .i64 s.c2, .int .i64 s.c3, .int .i64 s.c4, .int .i64 s.c5, .int .i64 s.c6]) ∧ Below w.heap.size w w' := by
  obtain ⟨c0, c1, c2, c3, c4, c5, c6, c7, c8, z, lt⟩ := H.head
  clear c7 c8 H
  go_enter Try.func15, Try.ntmps15
  go_wp2
  exact bodyPost_ret (v := .agg #[.int .i64 s.c0, .int .i64 s.c1, .int .i64 s.c2, .int .i64 s.c3, .int .i64 s.c4, .int .i64 s.c5, .int .i64 s.c6]) (by simp [results, Try.results15, go_sem]) rfl ⟨rfl, (by repeat (first | exact Below.refl _ _ | apply Below.drew | apply Below.more1 | apply Below.alloc1))⟩
theorem state_any {w : World} {base ab : Nat} {s : ArS} {av : ArV} (H : ArAt w base ab s av) (k : Int) :
    Calls Try.prog 28 #[.pointer (some ⟨ab, 0, none⟩), .int .i64 k] w fun e w' => e = .returned (.tuple #[.int .i64 (s.state k).1, .int .i64 (s.state k).2.1, .int .i64 (s.state k).2.2]) ∧ Below w.heap.size w w' := by
  have HH := Lib.hid (has_any H k)
  cases hk : s.has k with
  | false =>
    have e1 : s.state k = (0, 0, 2) := by unfold ArS.state; rw [hk]; rfl
    rw [e1]
    rw [hk] at HH
    clear e1 H hk
    go_enter Try.func28, Try.ntmps28
    go_wp2_with (go_at_call 45; refine HH.out.mono ?_; rintro e w1 ⟨rfl, rfl⟩)
    go_ret3
    exact ⟨rfl, (by repeat (first | exact Below.refl _ _ | apply Below.drew | apply Below.more1 | apply Below.alloc1))⟩
  | true =>
    rw [hk] at HH
    have e1 : s.state k = ((s.slot k).1, (s.slot k).2, 0) := by unfold ArS.state; rw [hk]; rfl
    have hk' : 0 ≤ k ∧ k < (s.slots.length : Int) := by simpa [ArS.has] using hk
    obtain ⟨n, rfl⟩ : ∃ n : Nat, k = n := ⟨k.toNat, by omega⟩
    have hn : n < s.slots.length := by omega
    have e2 : s.slot n = s.slots[n] := by simp [ArS.slot, List.getD_eq_getElem?_getD, hn]
    rw [e1, e2]
    obtain ⟨g, cap, e, h1, h2, h3, h4, h5, h6, h7, h8⟩ := H.slotAt hn
    obtain ⟨c0, c1, c2, c3, c4, c5, c6, c7, c8, z, lt⟩ := H.head
    rw [e] at c7
    generalize s.slots[n] = x at *
    unfold maxLen at h2
    clear c0 c1 c2 c3 c4 c5 c6 c8 H hk e1 e2 e h3
    go_enter Try.func28, Try.ntmps28
    go_wp2_with (go_at_call 45; refine HH.out.mono ?_; rintro e w1 ⟨rfl, rfl⟩)
    go_wp2
    refine wp_region_more_lit (by kernel_rfl) (by kernel_rfl) ?_
    repeat (first | go_big_quiet_skip | (go_big_quiet_want; go_big_quiet_op; first | go_big_quiet_on | (apply Exists.intro; refine ⟨fun _ => ?_, ?_⟩; (focus (fail)); go_big_quiet_on)))
    refine wpQuiet_nil ?_
    intro osq dq
    go_wp2
    go_ret3
    exact ⟨rfl, (by repeat (first | exact Below.refl _ _ | apply Below.drew | apply Below.more1 | apply Below.alloc1))⟩
end Go.Proofs.Ytjcggokhminmoaa
namespace Go
open Go.RowKit
open Go.Proofs.Ytjcggokhminmoaa

/-- where the words Spare begin; how many words there are -/
def ArS.sb (s : ArS) : Nat := (baseF s.c1 s.c2 s.c5 s.c6 9).toNat
def ArS.size (s : ArS) : Nat := (baseF s.c1 s.c2 s.c5 s.c6 13).toNat
def wHead (W : List Int) : Int := W.getD 0 0
def ArS.spare (s : ArS) (W : List Int) (k : Nat) : Int := W.getD (s.sb + k) 0
def ArS.n (s : ArS) : Nat := s.slots.length
def ArS.st (s : ArS) (k : Nat) : Int := (s.slots.getD k (0, 0)).1
def HeadOk (s : ArS) (w : Int) : Prop := 0 ≤ w ∧ w < 18446744073709551616 ∧ linkIndex w < (s.n : Int)
def SpareOk (s : ArS) (w : Int) : Prop := 0 ≤ w ∧ w ≤ (s.n : Int)

theorem linkIndex_ge (w : Int) : -1 ≤ linkIndex w := by unfold linkIndex; have := Int.emod_nonneg w (show (4294967296 : Int) ≠ 0 by decide); omega
theorem HeadOk.isHead {s : ArS} {w : Int} (h : HeadOk s w) (hn : s.n ≤ 1024) : Go.Proofs.Ytjcggokhminmoaa.isHead w = true := by
  have := h.2.2
  unfold linkIndex at this
  simp [Go.Proofs.Ytjcggokhminmoaa.isHead]
  omega
theorem HeadOk.idx {s : ArS} {w : Int} (h : HeadOk s w) (hn : s.n ≤ 1024) : hIdx w = linkIndex w := by unfold hIdx; rw [h.isHead hn]; rfl
theorem HeadOk.tag {s : ArS} {w : Int} (h : HeadOk s w) (hn : s.n ≤ 1024) : hTag w = w / 4294967296 := by
  unfold hTag
  rw [h.isHead hn]
  have h1 := h.1
  have h2 := h.2.1
  simp
  omega
theorem SpareOk.idx {s : ArS} {w : Int} (h : SpareOk s w) (hn : s.n ≤ 1024) : lIdx w = w - 1 := by
  obtain ⟨h1, h2⟩ := h
  have e : (decide (0 ≤ w) && isLink w) = true := by simp [isLink]; omega
  unfold lIdx
  rw [e]
  unfold linkIndex
  simp
  omega
theorem mkLink_eq {i : Int} (h0 : -1 ≤ i) (h1 : i < 1024) : mkLink i = i + 1 := by
  unfold mkLink
  rw [if_pos (by simp; omega)]
  simp [packLink]
theorem mkHead_eq {t i : Int} (h0 : -1 ≤ i) (h1 : i < 1024) : mkHead t i = t * 4294967296 + (i + 1) := by
  unfold mkHead
  rw [if_pos (by simp; omega)]
  rfl
theorem tagUp_eq {s : ArS} {w : Int} (h : HeadOk s w) (hn : s.n ≤ 1024) (hm : hTag w ≤ 65536) : tagUp w = hTag w + 1 := by
  unfold tagUp
  have h0 : 0 ≤ hTag w := by rw [h.tag hn]; have := h.1; omega
  show (hTag w + 1) % 4294967296 = _
  omega
/-- a head that was packed -/
theorem head_new {t i : Int} {s : ArS} (ht : 0 ≤ t) (ht2 : t ≤ 65537) (h0 : -1 ≤ i) (h1 : i < (s.n : Int)) (hn : s.n ≤ 1024) : HeadOk s (mkHead t i) ∧ linkIndex (mkHead t i) = i ∧ hTag (mkHead t i) = t := by
  have e := mkHead_eq (t := t) h0 (show i < 1024 by omega)
  have hi : linkIndex (mkHead t i) = i := by rw [e]; unfold linkIndex; omega
  have hk : HeadOk s (mkHead t i) := ⟨by rw [e]; omega, by rw [e]; omega, by rw [hi]; exact h1⟩
  exact ⟨hk, hi, by rw [hk.tag hn, e]; omega⟩

theorem ok_small {s : ArS} (h : s.Ok) : 1 ≤ s.n ∧ s.n ≤ 1024 ∧ s.caches.length ≤ 16 ∧ 1 ≤ s.caches.length ∧ 1 ≤ s.sb ∧ s.sb + s.n ≤ s.size ∧ s.size ≤ 1000000 ∧ (s.sb : Int) = baseF s.c1 s.c2 s.c5 s.c6 9 ∧ (s.size : Int) = baseF s.c1 s.c2 s.c5 s.c6 13 ∧ 0 ≤ s.c4 ∧ s.c4 ≤ 64 := by
  obtain ⟨b0, b1, b2, b3, b4, b5, b6, bm⟩ := ok_bounds h.cfg
  have h1 := h.slots
  have h2 := h.caches
  have k9 := baseF_bd b1 b5 b6 bm 9
  have k13 := baseF_bd b1 b5 b6 bm 13
  have e : baseF s.c1 s.c2 s.c5 s.c6 13 = baseF s.c1 s.c2 s.c5 s.c6 9 + 4 * s.c5 := by simp [baseF, manyI]; omega
  unfold ArS.n ArS.sb ArS.size
  omega
theorem addr_free {s : ArS} (_h : s.Ok) : s.addr 1 0 = 0 := by
  unfold ArS.addr
  rw [if_pos (by simp [addrOk, manyI])]
  simp [addrAt, baseF]
theorem addr_spare {s : ArS} (h : s.Ok) {k : Nat} (hk : k < s.n) : s.addr 10 k = ((s.sb + k : Nat) : Int) := by
  have h1 := h.slots
  have := ok_small h
  unfold ArS.n at hk
  unfold ArS.addr
  rw [if_pos (by simp [addrOk, manyI]; omega)]
  simp only [addrAt, show ¬ ((10 : Int) = 9) by decide, if_false, show (10 - 1 : Int).toNat = 9 from rfl]
  push_cast
  omega

/-- what a step comes to: the words, the arena, the task (none: the call has ended), the access (kind, address, old, new, saw), the shifts (slot, from, to), the answer -/
structure AOut where
  W : List Int
  s : ArS
  tk : Option ATk
  acc : List (Int × Int × Int × Int × Int)
  sh : List (Int × Int × Int)
  ans : Option (Int × Int)
def ArS.put (s : ArS) (k : Nat) (x y : Int) : ArS := { s with slots := s.slots.set k (x, y) }
def ArS.lay (s : ArS) (i : Nat) (c : List Int) : ArS := { s with caches := s.caches.set i c }

/-- a step of the thread numbered i (its first one: rd = false) -/
inductive AStep (W : List Int) (s : ArS) (i : Nat) : Bool → ATk → AOut → Prop
  | takeCached {q : TkTake} {c : List Int} {k : Nat} (hq : q.at' = 1) (hc : s.caches[i]? = some (c ++ [(k : Int)])) (hk : k < s.n) :
      AStep W s i false (.take q) ⟨W, (s.lay i c).put k 2 i, none, [], [((k : Int), s.st k, 2)], some (2, (k : Int))⟩
  | takeLoad {rd : Bool} {q : TkTake} (hr : rd = false → s.caches[i]? = some []) (hq : q.at' = 1) (hx : 0 ≤ linkIndex (wHead W)) :
      AStep W s i rd (.take q) ⟨W, s, some (.take { q with head := wHead W, at' := 2 }), [(1, 0, 0, 0, wHead W)], [], none⟩
  | takeFull {rd : Bool} {q : TkTake} (hr : rd = false → s.caches[i]? = some []) (hq : q.at' = 1) (hx : linkIndex (wHead W) < 0) :
      AStep W s i rd (.take q) ⟨W, s, none, [(1, 0, 0, 0, wHead W)], [], some (4, 0)⟩
  | takeNext {q : TkTake} {k : Nat} (hq : q.at' = 2) (hk : linkIndex q.head = (k : Int)) (hl : k < s.n) :
      AStep W s i true (.take q) ⟨W, s, some (.take { q with next := s.spare W k, at' := 3 }), [(1, ((s.sb + k : Nat) : Int), 0, 0, s.spare W k)], [], none⟩
  | takeYes {q : TkTake} {k : Nat} (hq : q.at' = 3) (hk : linkIndex q.head = (k : Int)) (hl : k < s.n) (he : wHead W = q.head) :
      AStep W s i true (.take q) ⟨W.set 0 (mkHead (tagUp q.head) (lIdx q.next)), s.put k 2 i, none, [(3, 0, q.head, mkHead (tagUp q.head) (lIdx q.next), q.head)], [((k : Int), s.st k, 2)], some (2, (k : Int))⟩
  | takeNo {q : TkTake} (hq : q.at' = 3) (hne : wHead W ≠ q.head) :
      AStep W s i true (.take q) ⟨W, s, some (.take { q with at' := 1 }), [(3, 0, q.head, mkHead (tagUp q.head) (lIdx q.next), wHead W)], [], none⟩
  | giveCached {p : TkPush} {c : List Int} {k : Nat} (hp : p.at' = 1) (hc : s.caches[i]? = some c) (hl : (c.length : Int) < s.c4) (hk : p.slot = (k : Int)) (hkl : k < s.n) :
      AStep W s i false (.give p) ⟨W, (s.lay i (c ++ [(k : Int)])).put k 1 i, none, [], [((k : Int), s.st k, 1)], none⟩
  | giveLoad {rd : Bool} {p : TkPush} (hr : rd = false → ∃ c, s.caches[i]? = some c ∧ s.c4 ≤ (c.length : Int)) (hp : p.at' = 1) :
      AStep W s i rd (.give p) ⟨W, s, some (.give { p with head := wHead W, at' := 2 }), [(1, 0, 0, 0, wHead W)], [], none⟩
  | giveStore {p : TkPush} {k : Nat} (hp : p.at' = 2) (hk : p.slot = (k : Int)) (hkl : k < s.n) :
      AStep W s i true (.give p) ⟨W.set (s.sb + k) (mkLink (linkIndex p.head)), s, some (.give { p with at' := 3 }), [(2, ((s.sb + k : Nat) : Int), 0, mkLink (linkIndex p.head), 0)], [], none⟩
  | giveYes {p : TkPush} {k : Nat} (hp : p.at' = 3) (hk : p.slot = (k : Int)) (hkl : k < s.n) (he : wHead W = p.head) :
      AStep W s i true (.give p) ⟨W.set 0 (mkHead (tagUp p.head) k), s.put k 0 (-1), none, [(3, 0, p.head, mkHead (tagUp p.head) k, p.head)], [((k : Int), s.st k, 0)], none⟩
  | giveNo {p : TkPush} (hp : p.at' = 3) (hne : wHead W ≠ p.head) :
      AStep W s i true (.give p) ⟨W, s, some (.give { p with at' := 1 }), [(3, 0, p.head, mkHead (tagUp p.head) p.slot, wHead W)], [], none⟩
  | flushEmpty {p : TkPush} (hc : s.caches[i]? = some []) : AStep W s i false (.flush p) ⟨W, s, none, [], [], none⟩
  | flushFirst {p : TkPush} {c : List Int} {k : Nat} (hc : s.caches[i]? = some (c ++ [(k : Int)])) :
      AStep W s i false (.flush p) ⟨W, s, some (.flush { p with slot := k, head := wHead W, at' := 2 }), [(1, 0, 0, 0, wHead W)], [], none⟩
  | flushLoad {p : TkPush} (hp : p.at' = 1) :
      AStep W s i true (.flush p) ⟨W, s, some (.flush { p with head := wHead W, at' := 2 }), [(1, 0, 0, 0, wHead W)], [], none⟩
  | flushStore {p : TkPush} {k : Nat} (hp : p.at' = 2) (hk : p.slot = (k : Int)) (hkl : k < s.n) :
      AStep W s i true (.flush p) ⟨W.set (s.sb + k) (mkLink (linkIndex p.head)), s, some (.flush { p with at' := 3 }), [(2, ((s.sb + k : Nat) : Int), 0, mkLink (linkIndex p.head), 0)], [], none⟩
  | flushLast {p : TkPush} {k : Nat} (hp : p.at' = 3) (hk : p.slot = (k : Int)) (hkl : k < s.n) (he : wHead W = p.head) (hc : s.caches[i]? = some [(k : Int)]) :
      AStep W s i true (.flush p) ⟨W.set 0 (mkHead (tagUp p.head) k), (s.put k 0 (-1)).lay i [], none, [(3, 0, p.head, mkHead (tagUp p.head) k, p.head)], [((k : Int), s.st k, 0)], none⟩
  | flushMore {p : TkPush} {c : List Int} {k k2 : Nat} (hp : p.at' = 3) (hk : p.slot = (k : Int)) (hkl : k < s.n) (he : wHead W = p.head) (hc : s.caches[i]? = some (c ++ [(k2 : Int)] ++ [(k : Int)])) :
      AStep W s i true (.flush p) ⟨W.set 0 (mkHead (tagUp p.head) k), (s.put k 0 (-1)).lay i (c ++ [(k2 : Int)]), some (.flush { p with slot := k2, at' := 1 }), [(3, 0, p.head, mkHead (tagUp p.head) k, p.head)], [((k : Int), s.st k, 0)], none⟩
  | flushNo {p : TkPush} (hp : p.at' = 3) (hne : wHead W ≠ p.head) :
      AStep W s i true (.flush p) ⟨W, s, some (.flush { p with at' := 1 }), [(3, 0, p.head, mkHead (tagUp p.head) p.slot, wHead W)], [], none⟩

/-- the free list, from an index on -/
def Chain (s : ArS) (W : List Int) : Int → List Nat → Prop
  | x, [] => x = -1
  | x, k :: L => x = (k : Int) ∧ k < s.n ∧ Chain s W (s.spare W k - 1) L
def HeadSeen (W : List Int) (s : ArS) (h : Int) : Prop := HeadOk s h ∧ hTag h ≤ hTag (wHead W)
/-- what holds of a task -/
def TaskOk (W : List Int) (s : ArS) (i : Nat) (rd : Bool) : ATk → Prop
  | .take q => q.th = (i : Int) ∧ q.taken = false ∧ (rd = false → q.at' = 1) ∧ (q.at' = 1 ∨ ((q.at' = 2 ∨ q.at' = 3) ∧ HeadSeen W s q.head ∧ 0 ≤ linkIndex q.head)) ∧
      (q.at' = 3 → SpareOk s q.next ∧ (wHead W = q.head → s.spare W (linkIndex q.head).toNat = q.next))
  | .give p => p.th = (i : Int) ∧ (rd = false → p.at' = 1) ∧ (p.at' = 1 ∨ ((p.at' = 2 ∨ p.at' = 3) ∧ HeadSeen W s p.head)) ∧
      ∃ k : Nat, p.slot = (k : Int) ∧ s.slots[k]? = some (2, (i : Int)) ∧ (p.at' = 3 → s.spare W k = mkLink (linkIndex p.head))
  | .flush p => p.th = (i : Int) ∧ (rd = true → (p.at' = 1 ∨ ((p.at' = 2 ∨ p.at' = 3) ∧ HeadSeen W s p.head)) ∧
      ∃ (c : List Int) (k : Nat), s.caches[i]? = some (c ++ [(k : Int)]) ∧ p.slot = (k : Int) ∧ (p.at' = 3 → s.spare W k = mkLink (linkIndex p.head)))
structure AInv (W : List Int) (s : ArS) (ts : Nat → Option (Bool × ATk)) (mv : Nat) : Prop where
  ok : s.Ok
  wl : W.length = s.size
  head : HeadOk s (wHead W)
  spare : ∀ k, k < s.n → SpareOk s (s.spare W k)
  free : ∃ L : List Nat, Chain s W (linkIndex (wHead W)) L ∧ L.Nodup ∧ ∀ k, k < s.n → (k ∈ L ↔ s.st k = 0)
  cache : ∀ (i : Nat) (c : List Int), s.caches[i]? = some c → c.Nodup ∧ (c.length : Int) ≤ s.c4 ∧ ∀ x ∈ c, ∃ k : Nat, x = (k : Int) ∧ s.slots[k]? = some (1, (i : Int))
  cached : ∀ (k : Nat) (x : Int), s.slots[k]? = some (1, x) → ∃ (i : Nat) (c : List Int), x = (i : Int) ∧ s.caches[i]? = some c ∧ (k : Int) ∈ c
  tag : hTag (wHead W) ≤ (mv : Int)
  task : ∀ (i : Nat) (rd : Bool) (tk : ATk), ts i = some (rd, tk) → i < s.caches.length ∧ TaskOk W s i rd tk
end Go
namespace Go
open Go.RowKit
open Go.Proofs.Ytjcggokhminmoaa

/-- Ready, if it is the first step; and Step, if it is not over -/
def arR (rd : Bool) (s : ArS) (t : ATk) (d : DeskS) : ArS × ATk × DeskS × Bool :=
  let r := if rd then (s, t, d, false) else t.ready s d
  if r.2.2.2 then r else r.2.1.step r.1 r.2.2.1
structure AOutR (d : DeskS) (r : ArS × ATk × DeskS × Bool) (o : AOut) : Prop where
  s : r.1 = o.s
  over : r.2.2.2 = o.tk.isNone
  tk : ∀ t, o.tk = some t → r.2.1 = t
  words : r.2.2.1.mem.words = o.W
  log : r.2.2.1.mem.log = d.mem.log ++ o.acc.map fun a => ⟨d.mem.move, d.th, a.1, a.2.1, a.2.2.1, a.2.2.2.1, a.2.2.2.2⟩
  shifts : r.2.2.1.shifts = d.shifts ++ o.sh.map fun x => ⟨d.now, d.th, x.1, x.2.1, x.2.2⟩
  ak : r.2.2.1.ak = (o.ans.getD (d.ak, d.av)).1
  av : r.2.2.1.av = (o.ans.getD (d.ak, d.av)).2
  pt : r.2.2.1.pt = d.pt

section
variable {d : DeskS} {W : List Int} {a : Nat}
theorem can_of (hw : d.mem.words = W) (hu : d.used = false) (ha : a < W.length) : d.can (a : Int) = true := by
  unfold DeskS.can
  rw [hu, hw]
  simp
  omega
theorem word_of (hw : d.mem.words = W) (hu : d.used = false) (ha : a < W.length) : d.word (a : Int) = W.getD a 0 := by
  unfold DeskS.word
  rw [can_of hw hu ha, ← hw]
  rfl
theorem load_of (hw : d.mem.words = W) (hu : d.used = false) (ha : a < W.length) : (d.load (a : Int)).mem.words = W ∧ (d.load (a : Int)).mem.log = d.mem.log ++ [⟨d.mem.move, d.th, 1, (a : Int), 0, 0, W.getD a 0⟩] ∧
    (d.load (a : Int)).shifts = d.shifts ∧ (d.load (a : Int)).ak = d.ak ∧ (d.load (a : Int)).av = d.av ∧ (d.load (a : Int)).pt = d.pt := by
  unfold DeskS.load
  rw [can_of hw hu ha, ← hw]
  exact ⟨rfl, rfl, rfl, rfl, rfl, rfl⟩
theorem store_of (x : Int) (hw : d.mem.words = W) (hu : d.used = false) (ha : a < W.length) : (d.store (a : Int) x).mem.words = W.set a x ∧ (d.store (a : Int) x).mem.log = d.mem.log ++ [⟨d.mem.move, d.th, 2, (a : Int), 0, x, 0⟩] ∧
    (d.store (a : Int) x).shifts = d.shifts ∧ (d.store (a : Int) x).ak = d.ak ∧ (d.store (a : Int) x).av = d.av ∧ (d.store (a : Int) x).pt = d.pt := by
  unfold DeskS.store
  rw [can_of hw hu ha, ← hw]
  exact ⟨rfl, rfl, rfl, rfl, rfl, rfl⟩
theorem swaps_of (o : Int) (hw : d.mem.words = W) (hu : d.used = false) (ha : a < W.length) : d.swaps (a : Int) o = decide (W.getD a 0 = o) := by
  unfold DeskS.swaps
  rw [can_of hw hu ha, ← hw]
  rfl
theorem swap_yes (o x : Int) (hw : d.mem.words = W) (hu : d.used = false) (ha : a < W.length) (he : W.getD a 0 = o) : (d.swap (a : Int) o x).mem.words = W.set a x ∧ (d.swap (a : Int) o x).mem.log = d.mem.log ++ [⟨d.mem.move, d.th, 3, (a : Int), o, x, o⟩] ∧
    (d.swap (a : Int) o x).shifts = d.shifts ∧ (d.swap (a : Int) o x).ak = d.ak ∧ (d.swap (a : Int) o x).av = d.av ∧ (d.swap (a : Int) o x).pt = d.pt ∧ (d.swap (a : Int) o x).th = d.th ∧ (d.swap (a : Int) o x).now = d.now := by
  have e2 : d.mem.at a = o := by unfold MemS.at; rw [hw]; exact he
  have e3 : d.swap (a : Int) o x = { d with used := true, mem := { d.mem.note ⟨0, d.th, 3, (a : Int), o, x, d.mem.at a⟩ (d.mem.at a) with words := d.mem.words.set a x } } := by
    unfold DeskS.swap
    rw [can_of hw hu ha]
    simp [MemS.swap, if_pos e2]
  rw [e3, ← hw, e2]
  exact ⟨rfl, rfl, rfl, rfl, rfl, rfl, rfl, rfl⟩
theorem swap_no (o x : Int) (hw : d.mem.words = W) (hu : d.used = false) (ha : a < W.length) (he : W.getD a 0 ≠ o) : (d.swap (a : Int) o x).mem.words = W ∧ (d.swap (a : Int) o x).mem.log = d.mem.log ++ [⟨d.mem.move, d.th, 3, (a : Int), o, x, W.getD a 0⟩] ∧
    (d.swap (a : Int) o x).shifts = d.shifts ∧ (d.swap (a : Int) o x).ak = d.ak ∧ (d.swap (a : Int) o x).av = d.av ∧ (d.swap (a : Int) o x).pt = d.pt := by
  have e2 : ¬ d.mem.at a = o := by unfold MemS.at; rw [hw]; exact he
  have e3 : d.swap (a : Int) o x = { d with used := true, mem := d.mem.note ⟨0, d.th, 3, (a : Int), o, x, d.mem.at a⟩ (d.mem.at a) } := by
    unfold DeskS.swap
    rw [can_of hw hu ha]
    simp [MemS.swap, if_neg e2]
  rw [e3, ← hw]
  exact ⟨rfl, rfl, rfl, rfl, rfl, rfl⟩
end
theorem shift_of {s : ArS} {d : DeskS} {k : Nat} (hk : k < s.n) (tgt : Int) (ht : 0 ≤ tgt ∧ tgt ≤ 5) : s.shift d k tgt = (s.put k tgt (if tgt = 0 ∨ tgt = 3 then -1 else d.th), d.shift k (s.st k) tgt) := by
  unfold ArS.n at hk
  unfold ArS.shift
  rw [if_pos (by simp [ArS.has]; omega)]
  rfl

theorem Chain.ge {s : ArS} {W : List Int} {x : Int} {L : List Nat} (h : Chain s W x L) : L = [] ∧ x = -1 ∨ ∃ k L', L = k :: L' ∧ x = (k : Int) ∧ k < s.n := by
  cases L with
  | nil => exact .inl ⟨rfl, h⟩
  | cons k L' => exact .inr ⟨k, L', rfl, h.1, h.2.1⟩
theorem cache_eq {s : ArS} {i : Nat} {c : List Int} (h : s.caches[i]? = some c) : s.cache (i : Int) = c ∧ s.thread (i : Int) = true := by
  have hl := (List.getElem?_eq_some_iff.1 h).1
  have ht : s.thread (i : Int) = true := by unfold ArS.thread; simp; omega
  refine ⟨?_, ht⟩
  unfold ArS.cache
  rw [ht]
  simp [List.getD_eq_getElem?_getD, h]
theorem last_snoc {α : Type} (l : List α) : l = [] ∨ ∃ c k, l = c ++ [k] := by
  rcases List.eq_nil_or_concat l with h | ⟨c, k, h⟩
  · exact .inl h
  · exact .inr ⟨c, k, by simpa using h⟩
theorem getD_n {s : ArS} {k : Nat} {x : Int × Int} (h : s.slots[k]? = some x) : k < s.n ∧ s.st k = x.1 := by
  have := (List.getElem?_eq_some_iff.1 h).1
  exact ⟨this, by unfold ArS.st; rw [List.getD_eq_getElem?_getD, h]; rfl⟩

theorem astep_take {W : List Int} {s : ArS} {ts : Nat → Option (Bool × ATk)} {mv i : Nat} {rd : Bool} {q : TkTake} (H : AInv W s ts mv) (ht : ts i = some (rd, .take q)) {d : DeskS} (hw : d.mem.words = W) (hu : d.used = false) (hth : d.th = (i : Int)) :
    ∃ o, AStep W s i rd (.take q) o ∧ AOutR d (arR rd s (.take q) d) o := by
  obtain ⟨hil, h1, h2, h3, h4, h5⟩ := H.task i rd _ ht
  obtain ⟨n1, n2, n3, n4, n5, n6, n7, n8, n9, n10, n11⟩ := ok_small H.ok
  have hwl := H.wl
  have h0l : 0 < W.length := by omega
  obtain ⟨c, hc⟩ : ∃ c, s.caches[i]? = some c := ⟨_, List.getElem?_eq_getElem hil⟩
  obtain ⟨ec, eth⟩ := cache_eq hc
  have hix := H.head.idx n2
  have stepF : ∀ {rd : Bool}, (rd = false → s.caches[i]? = some []) → q.at' = 1 → ∃ o, AStep W s i rd (.take q) o ∧ AOutR d ((ATk.take q).step s d) o := by
    intro rd hr ha
    obtain ⟨l1, l2, l3, l4, l5, l6⟩ := load_of (a := 0) hw hu h0l
    have hwd := word_of (a := 0) hw hu h0l
    have es : q.step s d = (s, { q with head := wHead W, at' := if hIdx (wHead W) < 0 then 0 else 2 }, d.load 0, decide (hIdx (wHead W) < 0)) := by
      unfold TkTake.step
      rw [if_pos ha, addr_free H.ok]
      show (s, _, _, _) = _
      rw [show d.word (0 : Int) = wHead W from hwd]
    by_cases hx : linkIndex (wHead W) < 0
    · refine ⟨_, .takeFull hr ha hx, ?_⟩
      have ed : decide (hIdx (wHead W) < 0) = true := by rw [hix]; simpa using hx
      rw [ed] at es
      constructor <;> simp only [ATk.step, es, TkTake.tell, TkTake.slotOf, h2] <;> simp <;> first | assumption | exact l1 | exact l2 | exact l3 | exact l6
    · refine ⟨_, .takeLoad hr ha (by omega), ?_⟩
      have ed : decide (hIdx (wHead W) < 0) = false := by rw [hix]; simpa using hx
      have e2 : (if hIdx (wHead W) < 0 then (0 : Int) else 2) = 2 := if_neg (by rw [hix]; exact hx)
      rw [ed, e2] at es
      constructor <;> simp only [ATk.step, es, TkTake.tell] <;> simp <;> first | assumption | exact l1 | exact l2 | exact l3 | exact l4 | exact l5 | exact l6
  cases rd with
  | false =>
    have ha := h3 rfl
    rcases last_snoc c with rfl | ⟨c', x, rfl⟩
    · have er : q.ready s d = (s, q, d, false) := by
        unfold TkTake.ready
        rw [if_neg (by omega), h1, ec]
        rfl
      have e : arR false s (.take q) d = (ATk.take q).step s d := by simp [arR, ATk.ready, er, TkTake.tell]
      rw [e]
      exact stepF (fun _ => hc) ha
    · obtain ⟨k, rfl, hk⟩ := (H.cache i _ hc).2.2 x (by simp)
      obtain ⟨hkn, hst⟩ := getD_n hk
      refine ⟨_, .takeCached ha hc hkn, ?_⟩
      have er : q.ready s d = (((s.lay i c').put k 2 i), { q with slot := (k : Int), taken := true, at' := 0 }, d.shift k (s.st k) 2, true) := by
        unfold TkTake.ready
        rw [if_neg (by omega), h1, ec]
        simp only [List.getLast?_append, List.getLast?_singleton, Option.some_or, List.dropLast_concat]
        unfold TkTake.got
        rw [shift_of (s := s.setCache (i : Int) c') (d := d) hkn 2 (by omega)]
        simp [ArS.setCache, ArS.lay, ArS.put, ArS.st, hth, h1]
      have e : arR false s (.take q) d = (((s.lay i c').put k 2 i), .take { q with slot := (k : Int), taken := true, at' := 0 }, { d.shift k (s.st k) 2 with ak := 2, av := (k : Int) }, true) := by
        simp [arR, ATk.ready, er, TkTake.tell, TkTake.slotOf]
      rw [e]
      constructor <;> simp [DeskS.shift, hw]
  | true =>
    have e : arR true s (.take q) d = (ATk.take q).step s d := by simp [arR]
    rw [e]
    rcases h4 with ha | ⟨ha, ⟨hh, htg⟩, hx⟩
    · exact stepF (fun x => by cases x) ha
    · obtain ⟨k, hk⟩ : ∃ k : Nat, linkIndex q.head = (k : Int) := ⟨(linkIndex q.head).toNat, by omega⟩
      have hkn : k < s.n := by have := hh.2.2; omega
      have hqx := hh.idx n2
      rcases ha with ha | ha
      · have hal : s.sb + k < W.length := by omega
        obtain ⟨l1, l2, l3, l4, l5, l6⟩ := load_of (a := s.sb + k) hw hu hal
        have hwd := word_of (a := s.sb + k) hw hu hal
        refine ⟨_, .takeNext ha hk hkn, ?_⟩
        have es : q.step s d = (s, { q with next := s.spare W k, at' := 3 }, d.load ((s.sb + k : Nat) : Int), false) := by
          unfold TkTake.step
          rw [if_neg (by omega), if_pos ha, hqx, hk, addr_spare H.ok hkn, hwd]
          rfl
        constructor <;> simp only [ATk.step, es, TkTake.tell] <;> simp <;> first | assumption | exact l1 | exact l2 | exact l3 | exact l4 | exact l5 | exact l6
      · have hsw := swaps_of (a := 0) q.head hw hu h0l
        by_cases he : wHead W = q.head
        · refine ⟨_, .takeYes ha hk hkn he, ?_⟩
          obtain ⟨l1, l2, l3, l4, l5, l6, l7, l8⟩ := swap_yes (a := 0) q.head (mkHead (tagUp q.head) (lIdx q.next)) hw hu h0l he
          have e1 : d.swaps (0 : Int) q.head = true := hsw.trans (by simpa [wHead] using he)
          have es : q.step s d = (s.put k 2 i, { q with slot := (k : Int), taken := true, at' := 0 }, (d.swap 0 q.head (mkHead (tagUp q.head) (lIdx q.next))).shift k (s.st k) 2, true) := by
            unfold TkTake.step
            rw [if_neg (by omega), if_neg (by omega), if_pos ha, addr_free H.ok]
            simp only [e1, if_true]
            unfold TkTake.got
            rw [hqx, hk, shift_of hkn 2 (by omega)]
            rw [show (d.swap (0 : Int) q.head (mkHead (tagUp q.head) (lIdx q.next))).th = (i : Int) from l7.trans hth]
            simp
          constructor <;> simp only [ATk.step, es, TkTake.tell, TkTake.slotOf] <;> simp [DeskS.shift] <;> first | assumption | exact l1 | exact l2 | exact ⟨l3, l8, l7⟩ | exact l6
        · refine ⟨_, .takeNo ha he, ?_⟩
          obtain ⟨l1, l2, l3, l4, l5, l6⟩ := swap_no (a := 0) q.head (mkHead (tagUp q.head) (lIdx q.next)) hw hu h0l he
          have e1 : d.swaps (0 : Int) q.head = false := hsw.trans (by simpa [wHead] using he)
          have es : q.step s d = (s, { q with at' := 1 }, d.swap 0 q.head (mkHead (tagUp q.head) (lIdx q.next)), false) := by
            unfold TkTake.step
            rw [if_neg (by omega), if_neg (by omega), if_pos ha, addr_free H.ok]
            simp only [e1]
            rfl
          constructor <;> simp only [ATk.step, es, TkTake.tell] <;> simp <;> first | assumption | exact l1 | exact l2 | exact l3 | exact l4 | exact l5 | exact l6

section
variable {W : List Int} {s : ArS} {p : TkPush} {d : DeskS}
theorem pstep_load (hok : s.Ok) (hw : d.mem.words = W) (hu : d.used = false) (h0l : 0 < W.length) (ha : p.at' = 1) : p.step s d = (s, { p with head := wHead W, at' := 2 }, d.load 0, false) := by
  have hwd := word_of (a := 0) hw hu h0l
  unfold TkPush.step
  rw [if_pos ha, addr_free hok, show d.word (0 : Int) = wHead W from hwd]
theorem pstep_store (hok : s.Ok) {k : Nat} (hk : p.slot = (k : Int)) (hkn : k < s.n) (hx : hIdx p.head = linkIndex p.head) (ha : p.at' = 2) :
    p.step s d = (s, { p with at' := 3 }, d.store ((s.sb + k : Nat) : Int) (mkLink (linkIndex p.head)), false) := by
  unfold TkPush.step
  rw [if_neg (by omega), if_pos ha, hk, addr_spare hok hkn, hx]
theorem pstep_yes (hok : s.Ok) {k : Nat} (hk : p.slot = (k : Int)) (hkn : k < s.n) (hw : d.mem.words = W) (hu : d.used = false) (h0l : 0 < W.length) (ha : p.at' = 3) (he : wHead W = p.head) :
    p.step s d = (s.put k 0 (-1), { p with at' := 0 }, (d.swap 0 p.head (mkHead (tagUp p.head) k)).shift k (s.st k) 0, true) := by
  have e1 : d.swaps (0 : Int) p.head = true := (swaps_of (a := 0) p.head hw hu h0l).trans (by simpa [wHead] using he)
  unfold TkPush.step
  rw [if_neg (by omega), if_neg (by omega), if_pos ha, addr_free hok, hk]
  simp only [e1, if_true]
  rw [shift_of hkn 0 (by omega)]
  simp
theorem pstep_no (hok : s.Ok) (hw : d.mem.words = W) (hu : d.used = false) (h0l : 0 < W.length) (ha : p.at' = 3) (he : wHead W ≠ p.head) :
    p.step s d = (s, { p with at' := 1 }, d.swap 0 p.head (mkHead (tagUp p.head) p.slot), false) := by
  have e1 : d.swaps (0 : Int) p.head = false := (swaps_of (a := 0) p.head hw hu h0l).trans (by simpa [wHead] using he)
  unfold TkPush.step
  rw [if_neg (by omega), if_neg (by omega), if_pos ha, addr_free hok]
  simp only [e1]
  rfl
end

theorem astep_give {W : List Int} {s : ArS} {ts : Nat → Option (Bool × ATk)} {mv i : Nat} {rd : Bool} {p : TkPush} (H : AInv W s ts mv) (ht : ts i = some (rd, .give p)) {d : DeskS} (hw : d.mem.words = W) (hu : d.used = false) (hth : d.th = (i : Int)) :
    ∃ o, AStep W s i rd (.give p) o ∧ AOutR d (arR rd s (.give p) d) o := by
  obtain ⟨hil, h1, h3, h4, k, hk, hsl, h5⟩ := H.task i rd _ ht
  obtain ⟨n1, n2, n3, n4, n5, n6, n7, n8, n9, n10, n11⟩ := ok_small H.ok
  have hwl := H.wl
  have h0l : 0 < W.length := by omega
  obtain ⟨hkn, hst⟩ := getD_n hsl
  obtain ⟨c, hc⟩ : ∃ c, s.caches[i]? = some c := ⟨_, List.getElem?_eq_getElem hil⟩
  obtain ⟨ec, eth⟩ := cache_eq hc
  have stepF : ∀ {rd : Bool}, (rd = false → ∃ c, s.caches[i]? = some c ∧ s.c4 ≤ (c.length : Int)) → p.at' = 1 → ∃ o, AStep W s i rd (.give p) o ∧ AOutR d ((ATk.give p).step s d) o := by
    intro rd hr ha
    obtain ⟨l1, l2, l3, l4, l5, l6⟩ := load_of (a := 0) hw hu h0l
    have eg : p.giveStep s d = p.step s d := by unfold TkPush.giveStep; rw [if_neg (by omega)]
    have es := eg.trans (pstep_load H.ok hw hu h0l ha)
    refine ⟨_, .giveLoad hr ha, ?_⟩
    constructor <;> simp only [ATk.step, es] <;> (try simp) <;> first | assumption | exact l1 | exact l2 | exact l3 | exact l4 | exact l5 | exact l6
  cases rd with
  | false =>
    have ha := h3 rfl
    by_cases hcl : s.c4 ≤ (c.length : Int)
    · have er : p.giveReady s d = (s, p, d, false) := by
        unfold TkPush.giveReady
        rw [if_neg (by omega), h1, ec, if_pos hcl]
      have e : arR false s (.give p) d = (ATk.give p).step s d := by simp [arR, ATk.ready, er]
      rw [e]
      exact stepF (fun _ => ⟨c, hc, hcl⟩) ha
    · refine ⟨_, .giveCached ha hc (by omega) hk hkn, ?_⟩
      have er : p.giveReady s d = (((s.lay i (c ++ [(k : Int)])).put k 1 i), { p with at' := 0 }, d.shift k (s.st k) 1, true) := by
        unfold TkPush.giveReady
        rw [if_neg (by omega), h1, ec, if_neg hcl, hk]
        rw [shift_of (s := s.setCache (i : Int) (c ++ [(k : Int)])) (d := d) hkn 1 (by omega)]
        simp [ArS.setCache, ArS.lay, ArS.put, ArS.st, hth]
      have e : arR false s (.give p) d = (((s.lay i (c ++ [(k : Int)])).put k 1 i), .give { p with at' := 0 }, d.shift k (s.st k) 1, true) := by
        simp [arR, ATk.ready, er]
      rw [e]
      constructor <;> simp [DeskS.shift, hw]
  | true =>
    have e : arR true s (.give p) d = (ATk.give p).step s d := by simp [arR]
    rw [e]
    rcases h4 with ha | ⟨ha, hh, htg⟩
    · exact stepF (fun x => by cases x) ha
    · have hqx := hh.idx n2
      have eg : p.giveStep s d = p.step s d := by unfold TkPush.giveStep; rw [if_neg (by omega)]
      rcases ha with ha | ha
      · have hal : s.sb + k < W.length := by omega
        obtain ⟨l1, l2, l3, l4, l5, l6⟩ := store_of (a := s.sb + k) (mkLink (linkIndex p.head)) hw hu hal
        have es := eg.trans (pstep_store (d := d) H.ok hk hkn hqx ha)
        refine ⟨_, .giveStore ha hk hkn, ?_⟩
        constructor <;> simp only [ATk.step, es] <;> (try simp) <;> first | assumption | exact l1 | exact l2 | exact l3 | exact l4 | exact l5 | exact l6
      · by_cases he : wHead W = p.head
        · have es := eg.trans (pstep_yes H.ok hk hkn hw hu h0l ha he)
          obtain ⟨l1, l2, l3, l4, l5, l6, l7, l8⟩ := swap_yes (a := 0) p.head (mkHead (tagUp p.head) k) hw hu h0l he
          refine ⟨_, .giveYes ha hk hkn he, ?_⟩
          constructor <;> simp only [ATk.step, es] <;> simp [DeskS.shift] <;> first | assumption | exact l1 | exact l2 | exact ⟨l3, l8, l7⟩ | exact l4 | exact l5 | exact l6
        · have es := eg.trans (pstep_no H.ok hw hu h0l ha he)
          obtain ⟨l1, l2, l3, l4, l5, l6⟩ := swap_no (a := 0) p.head (mkHead (tagUp p.head) p.slot) hw hu h0l he
          refine ⟨_, .giveNo ha he, ?_⟩
          constructor <;> simp only [ATk.step, es] <;> (try simp) <;> first | assumption | exact l1 | exact l2 | exact l3 | exact l4 | exact l5 | exact l6

theorem astep_flush {W : List Int} {s : ArS} {ts : Nat → Option (Bool × ATk)} {mv i : Nat} {rd : Bool} {p : TkPush} (H : AInv W s ts mv) (ht : ts i = some (rd, .flush p)) {d : DeskS} (hw : d.mem.words = W) (hu : d.used = false) (_hth : d.th = (i : Int)) :
    ∃ o, AStep W s i rd (.flush p) o ∧ AOutR d (arR rd s (.flush p) d) o := by
  obtain ⟨hil, h1, h4⟩ := H.task i rd _ ht
  obtain ⟨n1, n2, n3, n4, n5, n6, n7, n8, n9, n10, n11⟩ := ok_small H.ok
  have hwl := H.wl
  have h0l : 0 < W.length := by omega
  obtain ⟨c, hc⟩ : ∃ c, s.caches[i]? = some c := ⟨_, List.getElem?_eq_getElem hil⟩
  obtain ⟨ec, eth⟩ := cache_eq hc
  cases rd with
  | false =>
    rcases last_snoc c with rfl | ⟨c', x, rfl⟩
    · have er : p.flushReady s d = (s, p, d, true) := by
        unfold TkPush.flushReady
        rw [h1, ec]
        rfl
      have e : arR false s (.flush p) d = (s, .flush p, d, true) := by simp [arR, ATk.ready, er]
      rw [e]
      refine ⟨_, .flushEmpty hc, ?_⟩
      constructor <;> simp [hw]
    · obtain ⟨k, rfl, hk⟩ := (H.cache i _ hc).2.2 x (by simp)
      have er : p.flushReady s d = (s, { p with slot := (k : Int), at' := 1 }, d, false) := by
        unfold TkPush.flushReady
        rw [h1, ec]
        simp
      have es : TkPush.flushStep s { p with slot := (k : Int), at' := 1 } d = (s, { p with slot := (k : Int), head := wHead W, at' := 2 }, d.load 0, false) := by
        have := pstep_load (p := { p with slot := (k : Int), at' := 1 }) H.ok hw hu h0l rfl
        unfold TkPush.flushStep
        rw [if_neg (by simp), this]
        rfl
      have e : arR false s (.flush p) d = (s, .flush { p with slot := (k : Int), head := wHead W, at' := 2 }, d.load 0, false) := by simp [arR, ATk.ready, er, ATk.step, es]
      rw [e]
      obtain ⟨l1, l2, l3, l4, l5, l6⟩ := load_of (a := 0) hw hu h0l
      refine ⟨_, .flushFirst hc, ?_⟩
      constructor <;> simp <;> first | assumption | exact l1 | exact l2 | exact l3 | exact l4 | exact l5 | exact l6
  | true =>
    have e : arR true s (.flush p) d = (ATk.flush p).step s d := by simp [arR]
    rw [e]
    obtain ⟨h3, c', k, hc', hk, h5⟩ := h4 rfl
    obtain ⟨k', hk', hsl⟩ := (H.cache i _ hc').2.2 (k : Int) (by simp)
    obtain rfl : k = k' := by omega
    obtain ⟨hkn, hst⟩ := getD_n hsl
    obtain ⟨ec', eth'⟩ := cache_eq hc'
    have eg : ∀ r, p.step s d = r → r.2.2.2 = false → p.flushStep s d = r := by
      intro r hr hf
      have h0 : p.at' ≠ 0 := by omega
      unfold TkPush.flushStep
      rw [if_neg h0]
      simp only [hr, hf]
      rfl
    rcases h3 with ha | ⟨ha, hh, htg⟩
    · obtain ⟨l1, l2, l3, l4, l5, l6⟩ := load_of (a := 0) hw hu h0l
      have es := eg _ (pstep_load H.ok hw hu h0l ha) rfl
      refine ⟨_, .flushLoad ha, ?_⟩
      constructor <;> simp only [ATk.step, es] <;> (try simp) <;> first | assumption | exact l1 | exact l2 | exact l3 | exact l4 | exact l5 | exact l6
    · have hqx := hh.idx n2
      rcases ha with ha | ha
      · have hal : s.sb + k < W.length := by omega
        obtain ⟨l1, l2, l3, l4, l5, l6⟩ := store_of (a := s.sb + k) (mkLink (linkIndex p.head)) hw hu hal
        have es := eg _ (pstep_store (d := d) H.ok hk hkn hqx ha) rfl
        refine ⟨_, .flushStore ha hk hkn, ?_⟩
        constructor <;> simp only [ATk.step, es] <;> (try simp) <;> first | assumption | exact l1 | exact l2 | exact l3 | exact l4 | exact l5 | exact l6
      · by_cases he : wHead W = p.head
        · have ep := pstep_yes H.ok hk hkn hw hu h0l ha he
          obtain ⟨l1, l2, l3, l4, l5, l6, l7, l8⟩ := swap_yes (a := 0) p.head (mkHead (tagUp p.head) k) hw hu h0l he
          have hcp : (s.put k 0 (-1)).cache (i : Int) = c' ++ [(k : Int)] := (cache_eq (s := s.put k 0 (-1)) (i := i) hc').1
          rcases last_snoc c' with rfl | ⟨c2, x, rfl⟩
          · have es : p.flushStep s d = ((s.put k 0 (-1)).lay i [], { p with at' := 0 }, (d.swap 0 p.head (mkHead (tagUp p.head) k)).shift k (s.st k) 0, true) := by
              unfold TkPush.flushStep
              rw [if_neg (by omega), ep]
              simp only [h1, hcp]
              rfl
            refine ⟨_, .flushLast ha hk hkn he hc', ?_⟩
            constructor <;> simp only [ATk.step, es] <;> simp [DeskS.shift] <;> first | assumption | exact l1 | exact l2 | exact ⟨l3, l8, l7⟩ | exact l4 | exact l5 | exact l6
          · obtain ⟨k2, rfl, hk2⟩ := (H.cache i _ hc').2.2 x (by simp)
            have es : p.flushStep s d = ((s.put k 0 (-1)).lay i (c2 ++ [(k2 : Int)]), { p with slot := (k2 : Int), at' := 1 }, (d.swap 0 p.head (mkHead (tagUp p.head) k)).shift k (s.st k) 0, false) := by
              unfold TkPush.flushStep
              rw [if_neg (by omega), ep]
              simp only [h1, hcp]
              simp [ArS.setCache, ArS.lay]
            refine ⟨_, .flushMore ha hk hkn he hc', ?_⟩
            constructor <;> simp only [ATk.step, es] <;> simp [DeskS.shift] <;> first | assumption | exact l1 | exact l2 | exact ⟨l3, l8, l7⟩ | exact l4 | exact l5 | exact l6
        · have es := eg _ (pstep_no H.ok hw hu h0l ha he) rfl
          obtain ⟨l1, l2, l3, l4, l5, l6⟩ := swap_no (a := 0) p.head (mkHead (tagUp p.head) p.slot) hw hu h0l he
          refine ⟨_, .flushNo ha he, ?_⟩
          constructor <;> simp only [ATk.step, es] <;> (try simp) <;> first | assumption | exact l1 | exact l2 | exact l3 | exact l4 | exact l5 | exact l6

/-- a step computes what AStep says -/
theorem astep_of {W : List Int} {s : ArS} {ts : Nat → Option (Bool × ATk)} {mv i : Nat} {rd : Bool} {tk : ATk} (H : AInv W s ts mv) (ht : ts i = some (rd, tk)) {d : DeskS} (hw : d.mem.words = W) (hu : d.used = false) (hth : d.th = (i : Int)) :
    ∃ o, AStep W s i rd tk o ∧ AOutR d (arR rd s tk d) o := by
  cases tk with
  | take q => exact astep_take H ht hw hu hth
  | give p => exact astep_give H ht hw hu hth
  | flush p => exact astep_flush H ht hw hu hth
end Go
