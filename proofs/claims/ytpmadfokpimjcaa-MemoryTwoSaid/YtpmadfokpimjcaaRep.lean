/-
MemoryReplays returns true.
-/
import Derived.Test.YtpmadfokpimjcaaRepP
import Derived.Test.YtpmadfokpimjcaaLogB
namespace Go.Proofs.Ytpmadfokpimjcaa
open Go.ChangeShapes Go.WideShapes Go.ChangeAt Go.RowKit

/-- a script that came in -/
def OpsIn (w : World) (va : Value) (ops : List OpS) : Prop :=
  ∃ o c, va = .slice o ops.length c ∧ ∀ i (h : i < ops.length), ∃ b off, o = some ⟨b, off, none⟩ ∧ b < w.heap.size ∧
    w.cell? ⟨b, off + i * 6 + 0, none⟩ = some (.int .i64 ops[i].kd) ∧ w.cell? ⟨b, off + i * 6 + 1, none⟩ = some (.int .i64 ops[i].th) ∧ w.cell? ⟨b, off + i * 6 + 2, none⟩ = some (.int .i64 ops[i].ad) ∧
    w.cell? ⟨b, off + i * 6 + 3, none⟩ = some (.int .i64 ops[i].n) ∧ w.cell? ⟨b, off + i * 6 + 4, none⟩ = some (.int .u64 ops[i].old) ∧ w.cell? ⟨b, off + i * 6 + 5, none⟩ = some (.int .u64 ops[i].w)

theorem take_next {α : Type} (l : List α) (k : Nat) (h : k < l.length) : l.take (k + 1) = l.take k ++ [l[k]] := by
  rw [List.take_succ_eq_append_getElem h]

theorem items_all (log : List Acc) : (items log 0 log.length).map (·.2) = log := by
  apply List.ext_getElem?
  intro i
  simp only [items, List.map_map, List.getElem?_map, Nat.sub_zero]
  by_cases h : i < log.length
  · rw [List.getElem?_range' h]
    simp [h]
  · rw [List.getElem?_eq_none (by simp; omega), List.getElem?_eq_none (by omega)]
    rfl
theorem nums_all (log : List Acc) (i : Nat) (h : i < log.length) : (nums (items log 0 log.length))[i]? = some (.int .i64 (i : Int)) := by
  simp only [nums, items, List.map_map, List.getElem?_map, Nat.sub_zero]
  rw [List.getElem?_range' h]
  simp
/-- the whole log -/
def LogAll (w : World) (log : List Acc) (e : Ending) (w' : World) : Prop :=
  ∃ on cn ol cl, e = .returned (.tuple #[.slice on log.length cn, .slice ol log.length cl, .bool true]) ∧ log.length ≤ cn ∧ log.length ≤ cl ∧ cn ≤ 9223372036854775807 ∧ cl ≤ 9223372036854775807 ∧
    w'.RowV w.heap.size 3 1 (.slice on log.length cn) log.length (nums (items log 0 log.length)) ∧ w'.RowV w.heap.size 45 7 (.slice ol log.length cl) log.length (accs log) ∧ Below w.heap.size w w'
theorem logged_full {w : World} {base mb : Nat} {st : MemS} {v : MemV} (h : MemAt w base mb st v) (hl : st.log.length ≤ 3000000000000) (most : Int) (hm : (st.log.length : Int) ≤ most) :
    Calls Try.prog 21 #[.pointer (some ⟨mb, 0, none⟩), .int .i64 0, .int .i64 most] w (LogAll w st.log) := by
  refine (logged_any h hl 0 0 most (.inl rfl)).mono ?_
  rintro e w' ⟨on, cn, ol, cl, he, h1, h2, h3⟩
  have hc : min (st.log.length - 0) most.toNat = st.log.length := by omega
  rw [hc] at he h1 h2
  rw [Nat.zero_add] at h1 h2
  have hents : ents (items st.log 0 st.log.length) = accs st.log := by unfold ents; rw [items_all]
  rw [hents] at h2
  obtain ⟨o1, c1, e1, q1, r1⟩ := h1.form
  obtain ⟨o2, c2, e2, q2, r2⟩ := h2.form
  cases e1
  cases e2
  unfold maxLen at r1 r2
  exact ⟨on, cn, ol, cl, he, q1, q2, by omega, by omega, h1, h2, h3⟩

/-- the memory while the log is replayed -/
structure RepSt (w w3 : World) (L : Nat) (mb : Nat) (st : MemS) (vk : MemV) (n : Nat) (vn vl vx : Value) (ws : List Int) (wr : World) : Prop where
  now : wr.RowV w3.heap.size 23 1 vx n (u64s ws)
  nu : wr.RowV w.heap.size 3 1 vn L (nums (items st.log 0 L))
  lo : wr.RowV w.heap.size 45 7 vl L (accs st.log)
  me : MemAt wr w.heap.size mb st vk
  nuB : ∀ k, vn.rowBlock = some k → k < w3.heap.size
  loB : ∀ k, vl.rowBlock = some k → k < w3.heap.size
  meB : ∀ k, vk.own mb k → k < w3.heap.size
  be : Below w.heap.size w wr
  sz : w.heap.size ≤ w3.heap.size ∧ w3.heap.size ≤ wr.heap.size
section
variable {w w3 wr : World} {L mb n : Nat} {st : MemS} {vk : MemV} {vn vl vx : Value} {ws : List Int}
theorem RepSt.more (h : RepSt w w3 L mb st vk n vn vl vx ws wr) (os : Array Obj) (d : Nat) : RepSt w w3 L mb st vk n vn vl vx ws (wr.more os d) :=
  ⟨h.now.more _ _, h.nu.more _ _, h.lo.more _ _, h.me.more _ _, h.nuB, h.loB, h.meB, h.be.more1 _ _, h.sz.1, by have := h.sz.2; simp [World.more]; omega⟩
theorem RepSt.alloc (h : RepSt w w3 L mb st vk n vn vl vx ws wr) (o : Obj) : RepSt w w3 L mb st vk n vn vl vx ws (wr.alloc o) :=
  ⟨h.now.alloc _, h.nu.alloc _, h.lo.alloc _, h.me.alloc _, h.nuB, h.loB, h.meB, h.be.alloc1 _, h.sz.1, by have := h.sz.2; simp; omega⟩
theorem RepSt.put (h : RepSt w w3 L mb st vk n vn vl vx ws wr) {g j : Nat} (hg : vx.rowBlock = some g) (hj : j < n) (x : Int) : RepSt w w3 L mb st vk n vn vl vx (ws.set j x) (wr.setCell ⟨g, j, none⟩ (.int .u64 x)) := by
  have hgl := (h.now.lt g hg).1
  have hs := h.sz
  refine ⟨?_, h.nu.set (fun k hk e => by have := h.nuB k hk; have e' : k = g := e; omega) _, h.lo.set (fun k hk e => by have := h.loB k hk; have e' : k = g := e; omega) _,
    h.me.set_other (fun hk => by have := h.meB g hk; omega) _, h.nuB, h.loB, h.meB, h.be.setCell (by show w.heap.size ≤ g; omega) _, hs.1, by simp [World.setCell]; omega⟩
  have := h.now.put hg j (by omega) (.int .u64 x)
  simpa [u64s, List.map_set] using this
end

set_option maxRecDepth 100000 in
set_option maxHeartbeats 4000000 in
theorem rep_ok {w : World} {vx va : Value} {l : List Int} {ops : List OpS} (hs : w.Src 1 vx l.length (u64s l)) (hn : l.length ≤ 8192) (ho : OpsIn w va ops) (hm : ops.length ≤ 2999999999999) : Calls Try.prog 4 #[vx, va] w fun e w' => e = .returned (.bool true) ∧ Below w.heap.size w w' := by
  have HS := Lib.hid hs
  have HM := Lib.hid (made_ok hs hn)
  obtain ⟨ox, cx, rfl⟩ : ∃ o c, vx = .slice o l.length c := by
    rcases hs.2 with ⟨rfl, h0⟩ | ⟨ad, c, rfl, hc, _⟩
    · exact ⟨none, 0, by rw [h0]⟩
    · exact ⟨some ad, c, rfl⟩
  obtain ⟨oo, co, rfl, hops⟩ := ho
  have HO := Lib.hid hops
  clear hs hops
  go_enter Try.func4, Try.ntmps4
  go_wp2_with fail
  refine HM.out.mono ?_
  rintro e w1 ⟨mb, v, rfl, hM, hb⟩
  have H1 := Lib.hid hM
  have B1 := Lib.hid hb
  clear hM hb
  go_wp2
  go_loopg [6] ops.length (fun g sl wr => ∃ k : Nat, k ≤ ops.length ∧ ops.length ≤ k + g ∧ sl = .int .i64 (k : Int) ∧ Hid (∃ v, MemAt wr w.heap.size mb (accs1 l (ops.take k)) v) ∧ Hid (Below w.heap.size w wr))
  case atStart => exact ⟨0, by omega, by omega, rfl, ⟨v, H1.out⟩, B1⟩
  case round =>
    obtain ⟨k, hk, hg, rfl, hMk, hBk⟩ := hrel
    by_cases hlk : k < ops.length
    · obtain ⟨b, off, rfl, hlt, c0, c1, c2, c3, c4, c5⟩ := HO.out k hlk
      have tr : ∀ j u, w.cell? ⟨b, j, none⟩ = some u → wr.cell? ⟨b, j, none⟩ = some u := fun j u hu => (hBk.out.cell (p := ⟨b, j, none⟩) hlt).trans hu
      have d0 := tr _ _ c0
      have d1 := tr _ _ c1
      have d2 := tr _ _ c2
      have d3 := tr _ _ c3
      have d4 := tr _ _ c4
      have d5 := tr _ _ c5
      simp only [Nat.add_zero] at d0
      clear c0 c1 c2 c3 c4 c5 tr
      obtain ⟨vk, hMk'⟩ := hMk.out
      have hln := accs1_len l (ops.take k)
      rw [List.length_take] at hln
      have hga := (accs1_good l (ops.take k)).ahead
      have HA := Lib.hid (access_any hMk' (by omega) (by omega) ops[k].kd ops[k].th ops[k].ad ops[k].n ops[k].old ops[k].w)
      have hnx : accF (accs1 l (ops.take k)) ⟨ops[k].kd, ops[k].th, ops[k].ad, ops[k].n, ops[k].old, ops[k].w⟩ = accs1 l (ops.take (k + 1)) := by
        rw [take_next ops k hlk, accs_snocF]
      have HN := Lib.hid hnx
      have HK := Lib.hid hMk'
      clear hMk' hln hga hnx
      generalize ops[k].kd = z0 at *
      generalize ops[k].th = z1 at *
      generalize ops[k].ad = z2 at *
      generalize ops[k].n = z3 at *
      generalize ops[k].old = z4 at *
      generalize ops[k].w = z5 at *
      go_wp2_with fail
      refine HA.out.mono ?_
      rintro e w2 ⟨rfl, v2, k1, k2, k3⟩
      rw [HN.out] at k1
      have hb2 : Below w.heap.size w w2 := hBk.out.trans (k2.below (fun i hi => (HK.out.lt i hi).1) hBk.out.size)
      have K1 := Lib.hid k1
      have B2 := Lib.hid hb2
      clear k1 k2 k3 hb2
      go_wp2
      go_roundg (ops.length - (k + 1))
      case measure => omega
      case rel => exact ⟨k + 1, by omega, by omega, by go_num, ⟨v2, K1.out⟩, B2⟩
    · obtain rfl : k = ops.length := by omega
      obtain ⟨vk, hMk'⟩ := hMk.out
      rw [List.take_length] at hMk'
      have hln := accs1_len l ops
      have HG := Lib.hid (accs1_good l ops)
      generalize accs1 l ops = st at *
      have HL := Lib.hid (logged_full hMk' (by omega) ((ops.length : Int) + 1) (by omega))
      have HK := Lib.hid hMk'
      have hlen := HG.out.len
      clear hMk' hMk
      go_wp2_with fail
      refine HL.out.mono ?_
      rintro e w3 ⟨on, cn, ol, cl, rfl, n1, n2, n3, n4, hr1, hr2, hb3⟩
      have hM3 : MemAt w3 w.heap.size mb st vk := HK.out.of_block fun i hi => hb3.block i (HK.out.lt i hi).2
      have HC := Lib.hid (count_mem hM3)
      have HR1 := Lib.hid hr1
      have HR2 := Lib.hid hr2
      have HM3 := Lib.hid hM3
      have hB3 : Below w.heap.size w w3 := hBk.out.trans (hb3.mono hBk.out.size)
      have HB3 := Lib.hid hB3
      have HSX := Lib.hid (HS.out.below hB3)
      have hne : ((st.log.length : Int) != (st.log.length : Int)) = false := by simp
      obtain ⟨i0, hi, hz0, hz1, hz2⟩ := info_parts infoU64
      have HI := Lib.hid hi
      have HZ0 := Lib.hid hz0
      have HZ1 := Lib.hid hz1
      have HZ2 := Lib.hid hz2
      have S1 := Lib.hid (u64s_one l)
      have S2 := Lib.hid (show 0 + l.length ≤ maxLen by unfold maxLen; omega)
      have S3 := Lib.hid (show ((0 + l.length) + (0 + l.length) / 4 + 192) * 8 ≤ 281474976710656 by omega)
      clear hi hz0 hz1 hz2 hr1 hr2 hM3 hB3 hb3
      go_wp2_with (first
        | (go_at_call 17; refine HC.out.mono ?_; rintro e w4 ⟨rfl, rfl⟩)
        | (at_builtin; refine wpList_append_row _ rfl _ _ 22 rfl w3.heap.size 23 i0 _ 1 8 Try.underlying22 HI.out HZ0.out HZ1.out HZ2.out rfl (.slice (some ⟨w3.heap.size, 0, none⟩) 0 0) 0 [] rfl (World.RowV_none _ _ _ _ _) _ l.length (u64s l) rfl (HSX.out.alloc _) S1.out S2.out S3.out (by simp) ?_; intro v' w5 hown hout; obtain ⟨o5, c5, rfl, hn5, hm5⟩ := hown.form; have HN5 := Lib.hid hown; have HO5 := Lib.hid hout; clear hown hout; unfold maxLen at hm5))
      have st0 : RepSt w w3 st.log.length mb st vk l.length (.slice on st.log.length cn) (.slice ol st.log.length cl) (.slice o5 l.length c5) l w5 := by
        have hsz := HB3.out.size
        have bl : ∀ k, k < w3.heap.size → w5.heap[k]? = w3.heap[k]? := fun k hk => by
          rw [HO5.out.block (by simp; omega) (by simp [Value.rowBlock]), Below.heap_alloc _ _ _ hk]
        have s5 := HO5.out.size
        simp at s5
        have hnu := fun k hk => (HR1.out.lt k hk).2
        have hlo := fun k hk => (HR2.out.lt k hk).2
        have hme := fun k hk => (HM3.out.lt k hk).2
        have hrs := hBk.out.size
        refine ⟨by simpa using HN5.out, (HR1.out.of_block fun k hk => bl k (hnu k hk)).base_mono hrs, (HR2.out.of_block fun k hk => bl k (hlo k hk)).base_mono hrs, HM3.out.of_block fun k hk => bl k (hme k hk), hnu, hlo, hme, ?_, hsz, by omega⟩
        have ho : w5.os = w3.os ∧ w5.tape = w3.tape ∧ w5.output = w3.output := by
          rcases HO5.out with ⟨_, _, _, hg⟩ | ⟨_, _, hg⟩ <;> exact ⟨hg.os, hg.tape, hg.output⟩
        exact HB3.out.trans ⟨ho.1, ho.2.1, ho.2.2, by omega, fun k hk => bl k (by omega)⟩
      have ST0 := Lib.hid st0
      clear st0
      go_loopg [11] st.log.length (fun g sl wz => ∃ k : Nat, k ≤ st.log.length ∧ st.log.length ≤ k + g ∧ sl = .int .i64 (k : Int) ∧ Hid (RepSt w w3 st.log.length mb st vk l.length (.slice on st.log.length cn) (.slice ol st.log.length cl) (.slice o5 l.length c5) ((st.log.take k).foldl wrF l) wz))
      case atStart => exact ⟨0, by omega, by omega, rfl, ST0⟩
      case round =>
        obtain ⟨k, hk, hg, rfl, STk⟩ := hrel
        by_cases hlk : k < st.log.length
        · have hsw := HG.out.saw k st.log[k] (List.getElem?_eq_getElem hlk)
          have htk := take_next st.log k hlk
          obtain ⟨g1, d1, e1, _, _, s1, _, _, x1⟩ := STk.out.nu.some_form (by omega)
          obtain ⟨g2, d2, e2, _, _, s2, _, _, x2⟩ := STk.out.lo.some_form (by omega)
          cases e1
          cases e2
          have y1 := x1 k _ (nums_all st.log k hlk)
          have xa : ∀ j u, st.log[k].cells[j]? = some u → j < 7 → wr.cell? ⟨g2, k * 7 + j, none⟩ = some u := fun j u hu hj => x2 (k * 7 + j) u (by rw [accs_get st.log k j hlk hj]; simpa [hlk] using hu)
          have hwl : ((st.log.take k).foldl wrF l).length = l.length := foldl_wrF_len _ _
          generalize hz : st.log[k] = z at *
          obtain ⟨mv, th, kd, ad, old, nw, saw⟩ := z
          have z0 := xa 0 _ rfl (by omega)
          have z1 := xa 1 _ rfl (by omega)
          have z2 := xa 2 _ rfl (by omega)
          have z3 := xa 3 _ rfl (by omega)
          have z4 := xa 4 _ rfl (by omega)
          have z5 := xa 5 _ rfl (by omega)
          have z6 := xa 6 _ rfl (by omega)
          simp only [Nat.add_zero] at z0
          clear xa x1 x2
          obtain ⟨a1, a2, a3⟩ := hsw
          simp only at a1 a2 a3 z0 z1 z2 z3 z4 z5 z6
          obtain ⟨j, rfl⟩ : ∃ j : Nat, ad = (j : Int) := ⟨ad.toNat, by omega⟩
          have hj : j < l.length := by omega
          obtain ⟨g3, d3, e3, _, _, s3, t3, f3, x3⟩ := STk.out.now.some_form (by omega)
          cases e3
          have y3 := x3 j _ (u64s_get (by omega))
          have hws : (st.log.take (k + 1)).foldl wrF l = wrF ((st.log.take k).foldl wrF l) ⟨mv, th, kd, (j : Int), old, nw, saw⟩ := by rw [htk, List.foldl_append]; rfl
          have HWS := Lib.hid hws
          rw [show ((j : Int)).toNat = j by omega] at a3
          generalize (st.log.take k).foldl wrF l = ws at *
          generalize ws.getD j 0 = y at a3 y3
          have A3 := Lib.hid a3
          have T3 := Lib.hid t3
          have F3 := Lib.hid f3
          have f3' := f3 j
          clear x3 hws htk a1 a2 a3 t3 f3 hz hwl
          have hrs := STk.out.sz
          have q1 : decide ((j : Int) < 0) = false := by simp
          have q2 : decide ((l.length : Int) ≤ (j : Int)) = false := by simp; omega
          have q3 : decide (l.length ≤ j) = false := by simp; omega
          have q4 : ((k : Int) != (k : Int)) = false := by simp
          by_cases h2 : kd = 2
          · subst h2
            have hb : accWr ⟨mv, th, 2, (j : Int), old, nw, saw⟩ = true := by simp [accWr]
            have HB := Lib.hid hb
            go_wp2
            go_wp2
            refine wp_region_more_lit (by kernel_rfl) (by kernel_rfl) ?_
            repeat (first | go_big_quiet_skip | (go_big_quiet_want; go_big_quiet_op; first | go_big_quiet_on | (apply Exists.intro; refine ⟨fun _ => ?_, ?_⟩; (focus (fail)); go_big_quiet_on)))
            refine wpQuiet_nil ?_
            intro osq dq
            go_wp2_with (go_at_call 22; refine (writes_any ⟨mv, th, 2, (j : Int), old, nw, saw⟩ _).mono ?_; rintro e w1 ⟨rfl, hb1⟩; obtain ⟨os, d, rfl⟩ := hb1.more; clear hb1)
            go_roundg (st.log.length - (k + 1))
            case measure => omega
            case rel =>
              refine ⟨k + 1, by omega, by omega, by go_num, Lib.hid ?_⟩
              rw [HWS.out]
              unfold wrF
              rw [if_pos HB.out]
              repeat (first | exact STk.out.put T3.out hj _ | apply RepSt.more | apply RepSt.alloc)
          · have hk2 : (kd != 2) = true := by simpa using h2
            have hsy := A3.out h2
            subst hsy
            have q5 : (saw != saw) = false := by simp
            have H2 := Lib.hid h2
            clear h2 A3
            cases hb : accWr ⟨mv, th, kd, (j : Int), old, nw, saw⟩
            all_goals
              have HB := Lib.hid hb
              go_wp2
              go_wp2
              refine wp_region_more_lit (by kernel_rfl) (by kernel_rfl) ?_
              repeat (first | go_big_quiet_skip | (go_big_quiet_want; go_big_quiet_op; first | go_big_quiet_on | (apply Exists.intro; refine ⟨fun _ => ?_, ?_⟩; (focus (fail)); go_big_quiet_on)))
              refine wpQuiet_nil ?_
              intro osq dq
              go_wp2_with (go_at_call 22; refine (writes_any ⟨mv, th, kd, (j : Int), old, nw, saw⟩ _).mono ?_; rintro e w1 ⟨rfl, hb1⟩; obtain ⟨os, d, rfl⟩ := hb1.more; clear hb1)
              go_roundg (st.log.length - (k + 1))
              case measure => omega
              case rel =>
                refine ⟨k + 1, by omega, by omega, by go_num, Lib.hid ?_⟩
                rw [HWS.out]
                unfold wrF
                rw [HB.out]
                simp only [Bool.false_eq_true, ↓reduceIte]
                repeat (first | exact STk.out.put T3.out hj _ | exact STk.out | apply RepSt.more | apply RepSt.alloc)
        · obtain rfl : k = st.log.length := by omega
          have hnow := STk.out.now
          rw [List.take_length, ← HG.out.words] at hnow
          have hwm := words_mem STk.out.me (by omega)
          rw [hlen] at hwm
          have HW := Lib.hid hwm
          have HN := Lib.hid hnow
          clear hwm hnow
          go_wp2_with fail
          refine HW.out.mono ?_
          rintro e w6 ⟨o6, c6, rfl, n6, m6, hr6, ho6⟩
          have hn6 : w6.RowV w3.heap.size 23 1 (.slice o5 l.length c5) l.length (u64s st.words) := HN.out.of_block fun i hi => ho6.block i (HN.out.lt i hi).2 (fun x => x)
          have hb6 : Below w.heap.size w w6 := STk.out.be.trans (ho6.below (fun _ h => h.elim) STk.out.be.size)
          have HS6 := Lib.hid (sameWords_yes hn6 hr6)
          have HB6 := Lib.hid hb6
          clear hn6 hb6 hr6 ho6
          go_wp2_with fail
          refine HS6.out.mono ?_
          rintro e w7 ⟨rfl, hb7⟩
          have hb8 : Below w.heap.size w w7 := HB6.out.trans (hb7.mono HB6.out.size)
          have HB8 := Lib.hid hb8
          clear hb7 hb8
          go_wp2
          go_ret
          exact ⟨rfl, HB8.out⟩

theorem rep_long {w : World} {va : Value} (o : Option Addr) (n c : Nat) (hn : 8192 < n) (hm : n ≤ 9223372036854775807) : Calls Try.prog 4 #[.slice o n c, va] w fun e w' => e = .returned (.bool true) ∧ Below w.heap.size w w' := by
  go_enter Try.func4, Try.ntmps4
  go_wp2_with (go_at_call 18; refine (awake_any _).mono ?_; rintro e w1 ⟨rfl, hb1⟩; obtain ⟨os, d, rfl⟩ := hb1.more; clear hb1)
  go_ret
  exact ⟨rfl, (by repeat (first | exact Below.refl _ _ | apply Below.drew | apply Below.more1 | apply Below.alloc1))⟩

theorem memoryReplays_walk {w : World} {vx va : Value} {l : List Int} {ops : List OpS} (hs : w.Src 1 vx l.length (u64s l)) (hl : l.length ≤ maxLen) (ho : OpsIn w va ops) (hm : ops.length ≤ 2999999999999) : Calls Try.prog 4 #[vx, va] w fun e w' => e = .returned (.bool true) ∧ Below w.heap.size w w' := by
  by_cases hn : l.length ≤ 8192
  · exact rep_ok hs hn ho hm
  · unfold maxLen at hl
    rcases hs.2 with ⟨rfl, h0⟩ | ⟨ad, c, rfl, hc, _⟩
    · omega
    · exact rep_long (some ad) l.length c (by omega) (by omega)
end Go.Proofs.Ytpmadfokpimjcaa
