import Derived.Test.YtclffohjpbmnbaaGreatDoorMg35
import Derived.Test.YtclffohjpbmnbaaGreatDoorMg19
import Derived.Test.YtclffohjpbmnbaaGreatDoorMg3
/- ReadAt: attempts read out of their text, by both packages. -/
namespace Go.Proofs.YtclffohjpbmnbaaGreatDoor
open Go.ChangeShapes Go.WideShapes Go.ChangeAt Go.RowKit

theorem go_below_allocA (W : World) (o : Obj) : Below W.heap.size W (W.alloc o) := (Below.refl _ _).alloc (Nat.le_refl _) _
theorem NestIn.moreA {α : Type} [Inhabited α] {S : Shape α} {T : TypeId} {w : World} {lo hi hi' : Nat} {v : Value} {ps : List (Value × α)} (h : NestIn S T w lo hi v ps) (hh : hi ≤ hi') : NestIn S T w lo hi' v ps :=
  ⟨⟨h.row.1, fun g hg => Nat.lt_of_lt_of_le (h.row.2 g hg) hh⟩, h.sl, fun i hi0 => ⟨(h.pat i hi0).1, fun g hg => Nat.lt_of_lt_of_le ((h.pat i hi0).2 g hg) hh⟩, h.ok, h.far, h.dis⟩
def GivesAttsB (l : List Att) (b : Bool) (w : World) (e : Ending) (w' : World) : Prop := ∃ a n c, e = .returned (.tuple #[.slice a n c, .bool b]) ∧ OwnAtts w' w.heap.size (.slice a n c) l ∧ Below w.heap.size w w'
theorem own_atts_none (w : World) (base : Nat) : OwnAtts w base (.slice none 0 0) [] := ⟨[], rfl, World.ownsRow_nil _ _ _ _, fun _ h => absurd h List.not_mem_nil, List.Pairwise.nil⟩
theorem own_atts_empty (w : World) : OwnAtts (w.alloc (.cells #[] 103)) w.heap.size (.slice (some ⟨w.heap.size, 0, none⟩) 0 0) [] :=
  ⟨[], rfl, World.ownsRow_lit w #[] 0 (Nat.le_refl _) (by decide) rfl, fun _ h => absurd h List.not_mem_nil, List.Pairwise.nil⟩
theorem GivesAttsB.none {l : List Att} {b c : Bool} {w w' : World} (h : l = []) (hc : b = c) (hb : Below w.heap.size w w') : GivesAttsB l b w (.returned (.tuple #[.slice Option.none 0 0, .bool c])) w' :=
  ⟨Option.none, 0, 0, by rw [hc], by rw [h]; exact own_atts_none _ _, hb⟩
theorem GivesAttsB.mk {l : List Att} {b d : Bool} {a : Option Addr} {n c : Nat} {w w' : World} (hc : b = d) (ho : OwnAtts w' w.heap.size (.slice a n c) l) (hb : Below w.heap.size w w') : GivesAttsB l b w (.returned (.tuple #[.slice a n c, .bool d])) w' :=
  ⟨a, n, c, by rw [hc], ho, hb⟩
theorem OwnAtts.mono {w : World} {base base' : Nat} {v : Value} {l : List Att} (h : OwnAtts w base' v l) (hb : base ≤ base') : OwnAtts w base v l := by
  obtain ⟨ps, h1, h2, h3, h4⟩ := h
  exact ⟨ps, h1, own_mono h2 hb, fun p hp => ⟨(h3 p hp).1, own_mono (h3 p hp).2.1 hb, (h3 p hp).2.2.1, (h3 p hp).2.2.2⟩, h4⟩
theorem wpList_app_atts {w : World} {ops : Array Oper} {rest : List Oper} {o : Oper} {a : Act} {Q : Exit → Act → World → Prop} (hgd : o.guard = none) (s x : Operand)
    (ho : o.op = .call { callee := .builtin .append, args := #[s, x], argTypes := #[43, 43] })
    (base : Nat) (v : Value) (n : Nat) (xs : List Value) (hs : a.eval s = v) (hown : w.ownsRow base 103 3 v n xs)
    (A : Option Addr) (m c : Nat) (news : List Value) (hx : a.eval x = .slice A m c) (hr : Reads w w.heap.size 3 A m news) (h1 : ∀ u ∈ news, u.oneCell' = true)
    (hsz : n + m ≤ 1073741824) (hbase : base ≤ w.heap.size)
    (h : ∀ a' n' c' w', n' = n + m → w'.ownsRow base 103 3 (.slice a' n' c') (n + m) (xs ++ news) → w.grownBy w' v.ownBlock → ((Value.slice a' n' c').ownBlock = v.ownBlock ∨ (Value.slice a' n' c').ownBlock = some w.heap.size) → wpList Tryz.prog ops Q rest (a.put o.dst (.slice a' n' c')) w') :
    wpList Tryz.prog ops Q (o :: rest) a w := by
  obtain ⟨i0, hi, hz0, hz1, hz2⟩ := info_parts attInfo
  refine wpList_append_any w hgd s x 43 ho base 103 i0 _ 3 40 Tryz.underlying43 hi hz0 hz1 hz2 rfl (by decide) v n xs hs hown w.heap.size A m c news hx hr h1 (by unfold maxLen; omega) (by omega) hbase ?_
  intro v' w' hown' hg hb
  obtain ⟨a', c', rfl⟩ := slice_of_own hown'
  exact h a' _ c' w' rfl hown' hg hb
theorem att_new (w : World) (u : Value) (x : Int) (d : Bool) (t : TypeId) : Reads (w.alloc (.cells #[u, .int .i64 x, .bool d] t)) (w.alloc (.cells #[u, .int .i64 x, .bool d] t)).heap.size 3 (some ⟨w.heap.size, 0, none⟩) 1 [u, .int .i64 x, .bool d] := by
  refine ⟨rfl, fun _ => ⟨_, rfl, by simp, fun j x hx => ?_⟩⟩
  have ea : (⟨w.heap.size, 0, none⟩ : Addr).add j = ⟨w.heap.size, j, none⟩ := by unfold Addr.add; split <;> simp_all
  rw [ea, World.cell?_alloc_at _ _ _ _ rfl]
  simpa using hx
theorem att_new2 (w : World) (b : Nat) (hb : b = w.heap.size) (u : Value) (x : Int) (d : Bool) (t : TypeId) : Reads (w.alloc (.cells #[u, .int .i64 x, .bool d] t)) (w.alloc (.cells #[u, .int .i64 x, .bool d] t)).heap.size 3 (some ⟨b, 0, none⟩) 1 [u, .int .i64 x, .bool d] := by subst hb; exact att_new w u x d t
theorem dropC_str (t : List Int) (h : ∀ x ∈ t, 0 ≤ x ∧ x ≤ 255) : ((strOfNums t).toList == (⟨#[100, 114, 111, 112]⟩ : ByteArray).toList) = decide (t = dropC) := by
  rw [beq_bytes]
  apply decide_eq_decide.2
  constructor
  · intro e
    have := congrArg chars e
    rw [chars_strOf h] at this
    exact this
  · rintro rfl; rfl
set_option maxRecDepth 100000 in
set_option maxHeartbeats 4000000 in
theorem iReadAttempts_c (s : ByteArray) (w : World) (hs : s.size ≤ 1048576) (ht : TabW w) : Calls Tryz.prog 32 #[.string s] w (GivesAttsB (raL (chars s)) (raOk (chars s)) w) := by
  have HQ := Lib.hid (textLines_c s w hs)
  have HTab := Lib.hid ht; clear ht
  have hcl : (chars s).length ≤ 1048576 := by rw [chars_len]; exact hs
  have Hin := Lib.hid (chars_in s)
  generalize chars s = cs at *
  cases hLO : linesOk cs
  · have HN := Lib.hid (raOk_lines hLO)
    rw [hLO] at HQ
    clear hLO
    go_enter Tryz.func32, Tryz.ntmps32
    go_wp2_with fail
    refine HQ.out.mono ?_
    rintro e w1 ⟨a1, n1, c1, rfl, ho1, hb1⟩
    clear ho1 HQ
    go_wp2
    go_ret2
    exact GivesAttsB.none (raL_no HN.out) HN.out hb1
  · have HLO := Lib.hid hLO
    rw [hLO] at HQ
    have HNo := Lib.hid (fun k (hk : k < (linesL cs).length) h => raOk_bad (cs := cs) hk h)
    have HAll := Lib.hid (fun h => raOk_all (cs := cs) hLO h)
    have Hlin : Hid (∀ k, k < (linesL cs).length → (nth (linesL cs) k).length ≤ 1048576 ∧ ∀ x ∈ nth (linesL cs) k, 0 ≤ x ∧ x ≤ 255) := Lib.hid (fun k hk => by
      have hm := lines_mem (mem_nth hk)
      exact ⟨Nat.le_trans (split_len1 10 cs _ hm) hcl, fun x hx => Hin.out x (split_mem 10 cs _ hm x hx)⟩)
    have hLc : (linesL cs).length ≤ 1048576 := Nat.le_trans (lines_count cs) hcl
    have HYes := Lib.hid (fun h => raL_yes (cs := cs) h)
    clear hLO
    generalize linesL cs = L at *
    go_enter Tryz.func32, Tryz.ntmps32
    go_wp2_with fail
    refine HQ.out.mono ?_
    rintro e w1 ⟨a1, n1, c1, rfl, ho1, hb1⟩
    obtain ⟨ax, nx, cx, he, hn1, -, -, hS⟩ := OwnStrs.at ho1
    cases he
    rw [List.length_map] at hn1
    have HS := Lib.hid hS
    have Hn := Lib.hid hn1
    have HT1 := Lib.hid (HTab.out.below hb1)
    clear ho1 hS HQ
    have hn20 : n1 ≤ 1048576 := by omega
    clear hn1
    go_wp2
    go_loopw [6, 24] (fun s i wr => ∃ (k : Nat) (a' : Option Addr) (n' c' : Nat), i = .int .i64 k ∧ k ≤ n1 ∧ s = .slice a' n' c' ∧ Hid (OwnAtts wr w1.heap.size (.slice a' n' c') ((L.take k).map aLineAtt)) ∧ Hid (∀ j, j < k → aLineOk (nth L j) = true) ∧ Below w1.heap.size w1 wr) (fun _ i _ => n1 - (intOf i).toNat)
    case atStart => exact ⟨0, _, _, _, rfl, Nat.zero_le _, rfl, Lib.hid (own_atts_empty w1), Lib.hid (fun j h => absurd h (Nat.not_lt_zero _)), by go_grown⟩
    case round =>
      obtain ⟨k, a', n', c', rfl, hk, rfl, HO, HG, hb⟩ := hrel
      by_cases hlt : k < n1
      · have hkl : k < L.length := by rw [← Hn.out]; exact hlt
        obtain ⟨b, o, rfl, hbs, c0⟩ := (HS.out.at1 k hkl)
        replace c0 := cell_then hbs c0 hb
        obtain ⟨hpl, hpin⟩ := Hlin.out k hkl
        have HBad := Lib.hid (HNo.out k hkl)
        have HT : Hid ((L.take (k + 1)).map aLineAtt = (L.take k).map aLineAtt ++ [aLineAtt (nth L k)]) := Lib.hid (by rw [take_nth L k hkl, List.map_append]; rfl)
        have HG2 : Hid (aLineOk (nth L k) = true → ∀ j, j < k + 1 → aLineOk (nth L j) = true) := Lib.hid (fun h j hj => by
          rcases Nat.lt_succ_iff_lt_or_eq.1 hj with h1 | rfl
          · exact HG.out j h1
          · exact h)
        obtain ⟨ps, hps, hN⟩ := InNest.of HO.out
        have hlen : ps.length = k := by have := congrArg List.length hps; rw [List.length_map, List.length_map, List.length_take] at this; omega
        have HN := Lib.hid hN
        have Hps := Lib.hid hps
        have Hlen := Lib.hid hlen
        have hs0 := hb.size
        clear hN hps hkl HG hlen
        generalize nth L k = p at *
        have hts : (strOfNums p).size ≤ 1048576 := by rw [strOfNums_size]; exact hpl
        have HQ1 := Lib.hid (parts_c (strOfNums p) wr hts)
        rw [chars_strOf hpin] at HQ1
        generalize strOfNums p = tx at *
        have HTr := Lib.hid (HT1.out.below hb)
        go_wp2_with fail
        refine HQ1.out.mono ?_
        rintro e w2 ⟨a2, n2, c2', rfl, ho2, hb2⟩
        obtain ⟨ax, nx, cx, he, hn2, -, -, hS2⟩ := OwnStrs.at ho2
        cases he
        rw [List.length_map] at hn2
        have hbb := bthen hb hb2
        clear ho2
        by_cases h2 : n2 = 2
        · subst h2
          obtain ⟨b2, o2, rfl, hbs2, d0⟩ := StrsC.at1 hS2 0 (by omega)
          obtain ⟨b3, o3, he3, -, d1⟩ := StrsC.at1 hS2 1 (by omega)
          cases he3
          have hshape : aShape p = true := by unfold aShape; rw [← hn2]; rfl
          have hpm : ∀ i, i < (splitL 32 p).length → (nth (splitL 32 p) i).length ≤ 1048576 ∧ ∀ x ∈ nth (splitL 32 p) i, 0 ≤ x ∧ x ≤ 255 := fun i hi =>
            ⟨Nat.le_trans (split_len1 32 p _ (mem_nth hi)) hpl, fun x hx => hpin x (split_mem 32 p _ (mem_nth hi) x hx)⟩
          have HIt : Hid (aLineAtt p = ⟨(nth (splitL 32 p) 0).map hexN, numN (nth (splitL 32 p) 1), false⟩) := Lib.hid (by unfold aLineAtt; rw [← hn2]; rfl)
          have hOk : aLineOk p = (okPat ((nth (splitL 32 p) 0).map hexN) && numOk (nth (splitL 32 p) 1)) := by unfold aLineOk; rw [hshape]; rfl
          rw [hOk] at HBad HG2
          have hz0 : (strOfNums (nth (splitL 32 p) 0)).size ≤ 1048576 := by rw [strOfNums_size]; exact (hpm 0 (by omega)).1
          have hz1 : (strOfNums (nth (splitL 32 p) 1)).size ≤ 1048576 := by rw [strOfNums_size]; exact (hpm 1 (by omega)).1
          have HR := Lib.hid (fun W => readPattern_c (strOfNums (nth (splitL 32 p) 0)) W hz0)
          have HN1 := Lib.hid (fun W (x : Below w2.heap.size w2 W) => readDecimal_c (strOfNums (nth (splitL 32 p) 1)) W hz1 ((HTr.out.below hb2).below x))
          rw [chars_strOf (hpm 1 (by omega)).2] at HN1
          have hdg : digsL (strOfNums (nth (splitL 32 p) 0)) = (nth (splitL 32 p) 0).map hexN := by unfold digsL; rw [chars_strOf (hpm 0 (by omega)).2]
          unfold patR at HR
          rw [hdg] at HR
          clear hOk hpm hn2 hS2 HQ1 hpin hpl hdg hshape hz0 hz1
          generalize numOk (nth (splitL 32 p) 1) = k1 at *
          generalize numN (nth (splitL 32 p) 1) = v1 at *
          generalize (nth (splitL 32 p) 0).map hexN = dg at *
          generalize strOfNums (nth (splitL 32 p) 0) = t0 at *
          generalize strOfNums (nth (splitL 32 p) 1) = t1 at *
          rw [Nat.add_zero] at d0
          cases hok : okPat dg
          · rw [hok] at HR HBad
            have HX := Lib.hid (HBad.out rfl)
            clear HBad HG2 hok
            go_wp2_with fail
            refine (HR.out _).mono ?_
            rintro e w3 ⟨a3, n3, c3, rfl, ho3, hb3⟩
            replace d1 := cell_then hbs2 d1 hb3
            clear ho3
            go_wp2_with fail
            refine (HN1.out _ hb3).mono ?_
            rintro e w4 ⟨rfl, hb4⟩
            go_wp2
            go_ret2
            exact GivesAttsB.none (raL_no HX.out) HX.out (bthen hb1 (bthen hbb (bthen hb3 hb4)))
          rw [hok] at HR HBad HG2
          clear hok
          go_wp2_with fail
          refine (HR.out _).mono ?_
          rintro e w3 ⟨a3, n3, c3, rfl, ho3, hb3⟩
          replace d1 := cell_then hbs2 d1 hb3
          have HI : Hid (InInts w3 w2.heap.size w3.heap.size (.slice a3 n3 c3) dg) := Lib.hid (InInts.of (by simpa using ho3))
          clear ho3
          go_wp2_with fail
          refine (HN1.out _ hb3).mono ?_
          rintro e w4 ⟨rfl, hb4⟩
          have hb5 := bthen hbb (bthen hb3 hb4)
          cases k1
          · have HX := Lib.hid (HBad.out rfl)
            clear HBad HG2
            go_wp2
            go_ret2
            exact GivesAttsB.none (raL_no HX.out) HX.out (bthen hb1 hb5)
          have HG3 := Lib.hid (HG2.out rfl)
          have HI4 := Lib.hid (HI.out.below hb4)
          have HN4 := Lib.hid (HN.out.below (bthen hb2 (bthen hb3 hb4)))
          obtain ⟨hib, hhb⟩ : ∃ h, h = w2.heap.size := ⟨_, rfl⟩
          have hhib : wr.heap.size ≤ hib := by rw [hhb]; exact hb2.size
          have hs3 := hb3.size
          have hs4 := hb4.size
          rw [← hhb] at HI4
          clear HBad HG2 HN1 HR HI hbs2 d0 d1
          have hs5 := hb5.size
          go_wp2_with (at_builtin; refine wpList_app_atts rfl _ _ rfl w1.heap.size _ ps.length _ rfl (HN4.out.below (go_below_allocA _ _)).row.1 _ 1 1 [.slice a3 n3 c3, .int .i64 v1, .bool false] rfl (att_new _ _ _ _ _) (by intro y hy; simp at hy; rcases hy with rfl | rfl | rfl <;> rfl) (by have := Hlen.out; omega) (by simp; omega) ?_)
          intro a9 n9 c9 w9 hn9 ho9 hg9 hl9
          have hb9 : Below w1.heap.size w1 w9 := (hb5.alloc (by omega) _).grown hg9 (by simp; omega) (fun g hg => (HN4.out.row.1.lt g hg).1)
          have HO9 : Hid (OwnAtts w9 w1.heap.size (.slice a9 n9 c9) ((L.take (k + 1)).map aLineAtt)) := Lib.hid (by
            have h := nest_snoc (x := (⟨dg, v1, false⟩ : Att)) (hi := hib) (NestIn.moreA (HN4.out.below (go_below_allocA _ _)) hhib) (HI4.out.below (go_below_allocA _ _)) (by omega) ⟨_, _, _, rfl⟩ trivial (by simp; omega) ho9 hg9 (by simpa using hl9)
            rw [Hps.out] at h
            rw [HT.out, HIt.out]
            exact h)
          clear ho9 hg9 hl9 hn9 HN4 HI4
          go_wp2
          exact ⟨⟨k + 1, a9, n9, c9, by go_num, hlt, rfl, HO9, HG3, hb9⟩, by simp [intOf]; omega⟩
        · by_cases h3 : n2 = 3
          · subst h3
            obtain ⟨b2, o2, rfl, hbs2, d0⟩ := StrsC.at1 hS2 0 (by omega)
            obtain ⟨b3, o3, he3, -, d1⟩ := StrsC.at1 hS2 1 (by omega)
            cases he3
            obtain ⟨b4, o4, he4, -, d2⟩ := StrsC.at1 hS2 2 (by omega)
            cases he4
            have hm2 := dropC_str (nth (splitL 32 p) 2) (fun x hx => hpin x (split_mem 32 p _ (mem_nth (by omega)) x hx))
            have hcl4 : (⟨#[100, 114, 111, 112]⟩ : ByteArray).toList = [100, 114, 111, 112] := by rw [ByteArray.toList_eq]
            have hm3 := hm2
            rw [hcl4] at hm3
            generalize strOfNums (nth (splitL 32 p) 2) = t2 at *
            cases hdr : decide (nth (splitL 32 p) 2 = dropC)
            · rw [hdr] at hm2 hm3
              have HX := Lib.hid (HBad.out (by unfold aLineOk aShape; rw [← hn2, hdr]; rfl))
              clear HBad HG2 hdr hn2 hS2
              go_wp2
              go_ret2
              exact GivesAttsB.none (raL_no HX.out) HX.out (bthen hb1 hbb)
            · rw [hdr] at hm2 hm3
              have hshape : aShape p = true := by unfold aShape; rw [← hn2, hdr]; rfl
              clear hdr
              have hpm : ∀ i, i < (splitL 32 p).length → (nth (splitL 32 p) i).length ≤ 1048576 ∧ ∀ x ∈ nth (splitL 32 p) i, 0 ≤ x ∧ x ≤ 255 := fun i hi =>
                ⟨Nat.le_trans (split_len1 32 p _ (mem_nth hi)) hpl, fun x hx => hpin x (split_mem 32 p _ (mem_nth hi) x hx)⟩
              have HIt : Hid (aLineAtt p = ⟨(nth (splitL 32 p) 0).map hexN, numN (nth (splitL 32 p) 1), true⟩) := Lib.hid (by unfold aLineAtt; rw [← hn2]; rfl)
              have hOk : aLineOk p = (okPat ((nth (splitL 32 p) 0).map hexN) && numOk (nth (splitL 32 p) 1)) := by unfold aLineOk; rw [hshape]; rfl
              rw [hOk] at HBad HG2
              have hz0 : (strOfNums (nth (splitL 32 p) 0)).size ≤ 1048576 := by rw [strOfNums_size]; exact (hpm 0 (by omega)).1
              have hz1 : (strOfNums (nth (splitL 32 p) 1)).size ≤ 1048576 := by rw [strOfNums_size]; exact (hpm 1 (by omega)).1
              have HR := Lib.hid (fun W => readPattern_c (strOfNums (nth (splitL 32 p) 0)) W hz0)
              have HN1 := Lib.hid (fun W (x : Below w2.heap.size w2 W) => readDecimal_c (strOfNums (nth (splitL 32 p) 1)) W hz1 ((HTr.out.below hb2).below x))
              rw [chars_strOf (hpm 1 (by omega)).2] at HN1
              have hdg : digsL (strOfNums (nth (splitL 32 p) 0)) = (nth (splitL 32 p) 0).map hexN := by unfold digsL; rw [chars_strOf (hpm 0 (by omega)).2]
              unfold patR at HR
              rw [hdg] at HR
              clear hOk hpm hn2 hS2 HQ1 hpin hpl hdg hshape hz0 hz1
              generalize numOk (nth (splitL 32 p) 1) = k1 at *
              generalize numN (nth (splitL 32 p) 1) = v1 at *
              generalize (nth (splitL 32 p) 0).map hexN = dg at *
              generalize strOfNums (nth (splitL 32 p) 0) = t0 at *
              generalize strOfNums (nth (splitL 32 p) 1) = t1 at *
              rw [Nat.add_zero] at d0
              cases hok : okPat dg
              · rw [hok] at HR HBad
                have HX := Lib.hid (HBad.out rfl)
                clear HBad HG2 hok
                go_wp2_with fail
                refine (HR.out _).mono ?_
                rintro e w3 ⟨a3, n3, c3, rfl, ho3, hb3⟩
                replace d1 := cell_then hbs2 d1 hb3
                clear ho3
                go_wp2_with fail
                refine (HN1.out _ hb3).mono ?_
                rintro e w4 ⟨rfl, hb4⟩
                go_wp2
                go_ret2
                exact GivesAttsB.none (raL_no HX.out) HX.out (bthen hb1 (bthen hbb (bthen hb3 hb4)))
              rw [hok] at HR HBad HG2
              clear hok
              go_wp2_with fail
              refine (HR.out _).mono ?_
              rintro e w3 ⟨a3, n3, c3, rfl, ho3, hb3⟩
              replace d1 := cell_then hbs2 d1 hb3
              have HI : Hid (InInts w3 w2.heap.size w3.heap.size (.slice a3 n3 c3) dg) := Lib.hid (InInts.of (by simpa using ho3))
              clear ho3
              go_wp2_with fail
              refine (HN1.out _ hb3).mono ?_
              rintro e w4 ⟨rfl, hb4⟩
              have hb5 := bthen hbb (bthen hb3 hb4)
              cases k1
              · have HX := Lib.hid (HBad.out rfl)
                clear HBad HG2
                go_wp2
                go_ret2
                exact GivesAttsB.none (raL_no HX.out) HX.out (bthen hb1 hb5)
              have HG3 := Lib.hid (HG2.out rfl)
              have HI4 := Lib.hid (HI.out.below hb4)
              have HN4 := Lib.hid (HN.out.below (bthen hb2 (bthen hb3 hb4)))
              obtain ⟨hib, hhb⟩ : ∃ h, h = w2.heap.size := ⟨_, rfl⟩
              have hhib : wr.heap.size ≤ hib := by rw [hhb]; exact hb2.size
              have hs3 := hb3.size
              have hs4 := hb4.size
              rw [← hhb] at HI4
              clear HBad HG2 HN1 HR HI hbs2 d0 d1
              have hs5 := hb5.size
              go_wp2_with (at_builtin; refine wpList_app_atts rfl _ _ rfl w1.heap.size _ ps.length _ rfl (HN4.out.below (go_below_allocA _ _)).row.1 _ 1 1 [.slice a3 n3 c3, .int .i64 v1, .bool true] rfl (att_new _ _ _ _ _) (by intro y hy; simp at hy; rcases hy with rfl | rfl | rfl <;> rfl) (by have := Hlen.out; omega) (by simp; omega) ?_)
              intro a9 n9 c9 w9 hn9 ho9 hg9 hl9
              have hb9 : Below w1.heap.size w1 w9 := (hb5.alloc (by omega) _).grown hg9 (by simp; omega) (fun g hg => (HN4.out.row.1.lt g hg).1)
              have HO9 : Hid (OwnAtts w9 w1.heap.size (.slice a9 n9 c9) ((L.take (k + 1)).map aLineAtt)) := Lib.hid (by
                have h := nest_snoc (x := (⟨dg, v1, true⟩ : Att)) (hi := hib) (NestIn.moreA (HN4.out.below (go_below_allocA _ _)) hhib) (HI4.out.below (go_below_allocA _ _)) (by omega) ⟨_, _, _, rfl⟩ trivial (by simp; omega) ho9 hg9 (by simpa using hl9)
                rw [Hps.out] at h
                rw [HT.out, HIt.out]
                exact h)
              clear ho9 hg9 hl9 hn9 HN4 HI4
              go_wp2
              exact ⟨⟨k + 1, a9, n9, c9, by go_num, hlt, rfl, HO9, HG3, hb9⟩, by simp [intOf]; omega⟩
          · have HX := Lib.hid (HBad.out (by unfold aLineOk aShape; rw [← hn2, decide_eq_false h2, decide_eq_false h3]; rfl))
            clear HBad HG2 hS2
            by_cases hlo : n2 < 2
            · have hd1 : (n2 : Int) < 2 := by omega
              clear hn2 h2 h3
              go_wp2
              go_ret2
              exact GivesAttsB.none (raL_no HX.out) HX.out (bthen hb1 hbb)
            · have hd1 : ¬ (n2 : Int) < 2 := by omega
              have hd2 : decide ((3 : Int) < (n2 : Int)) = true := decide_eq_true (by omega)
              clear hn2 h2 h3
              go_wp2
              go_ret2
              exact GivesAttsB.none (raL_no HX.out) HX.out (bthen hb1 hbb)
      · obtain rfl : k = n1 := by omega
        have HE := Lib.hid (HAll.out (fun j hj => HG.out j (by rw [Hn.out]; exact hj)))
        have HO2 : Hid (OwnAtts wr w1.heap.size (.slice a' n' c') (L.map aLineAtt)) := Lib.hid (by
          have h := HO.out
          rwa [List.take_of_length_le (by rw [Hn.out]; exact Nat.le_refl _)] at h)
        have HV := Lib.hid (iValidAttempts_c (.slice a' n' c') (L.map aLineAtt) wr (OwnAtts.at HO2.out))
        rw [← HE.out] at HV
        clear HO HE HG HAll HNo
        have hs1 := hb1.size
        cases hR : raOk cs
        · rw [hR] at HV
          have HX := Lib.hid hR
          clear hR
          go_wp2_with fail
          refine HV.out.mono ?_
          rintro e w2 ⟨rfl, hb2⟩
          go_wp2
          go_ret2
          exact GivesAttsB.none (raL_no HX.out) HX.out (bthen hb1 (bthen hb hb2))
        · rw [hR] at HV
          have HX := Lib.hid (HYes.out hR)
          have HX2 := Lib.hid hR
          clear hR
          go_wp2_with fail
          refine HV.out.mono ?_
          rintro e w2 ⟨rfl, hb2⟩
          go_wp2
          go_ret2
          exact GivesAttsB.mk HX2.out (by rw [HX.out]; exact OwnAtts.mono (OwnNest.below HO2.out hb2) hs1) (bthen hb1 (bthen hb hb2))
set_option maxRecDepth 100000 in
set_option maxHeartbeats 4000000 in
theorem l24Line_c (s : ByteArray) (w : World) (hs : s.size ≤ 1048576) : Calls Tryz.prog 94 #[.string s] w fun e w' => ∃ a n c v d, e = .returned (.tuple #[.agg #[.slice a n c, .int .i64 v, .bool d], .bool (aLineOkS (chars s))]) ∧
    (aLineOkS (chars s) = true → OwnInts w' w.heap.size (.slice a n c) ((nth (splitL 32 (chars s)) 0).map hexN) ∧ v = numN (nth (splitL 32 (chars s)) 1) ∧ d = decide ((splitL 32 (chars s)).length = 3)) ∧ Below w.heap.size w w' := by
  have HQ := Lib.hid (fun W => l01Split_c s 32 W hs)
  have hpl : (chars s).length ≤ 1048576 := by rw [chars_len]; exact hs
  have hpin := chars_in s
  generalize chars s = p at *
  go_enter Tryz.func94, Tryz.ntmps94
  go_wp2_with fail
  refine (HQ.out _).mono ?_
  rintro e w1 ⟨a1, n2, c1, rfl, ho1, hb1'⟩
  have hb1 := bthen (by go_grown : Below w.heap.size w _) hb1'
  have B1 := Lib.hid ((BoxIs.new w _ _).below hb1')
  obtain ⟨e1, f1⟩ := B1.out.cells
  obtain ⟨ax, nx, cx, he, hn2, -, -, hS2⟩ := OwnStrs.at ho1
  cases he
  rw [List.length_map] at hn2
  clear ho1 hb1' HQ
  by_cases h2 : n2 = 2
  · subst h2
    obtain ⟨b2, o2, rfl, hbs2, d0⟩ := StrsC.at1 hS2 0 (by omega)
    obtain ⟨b3, o3, he3, -, d1⟩ := StrsC.at1 hS2 1 (by omega)
    cases he3
    have hshape : aShape p = true := by unfold aShape; rw [← hn2]; rfl
    have hpm : ∀ i, i < (splitL 32 p).length → (nth (splitL 32 p) i).length ≤ 1048576 ∧ ∀ x ∈ nth (splitL 32 p) i, 0 ≤ x ∧ x ≤ 255 := fun i hi =>
      ⟨Nat.le_trans (split_len1 32 p _ (mem_nth hi)) hpl, fun x hx => hpin x (split_mem 32 p _ (mem_nth hi) x hx)⟩
    have hOk : aLineOkS p = (decide ((nth (splitL 32 p) 0).length ≤ 12) && numOk (nth (splitL 32 p) 1)) := by unfold aLineOkS; rw [hshape]; rfl
    have hz0 : (strOfNums (nth (splitL 32 p) 0)).size = (nth (splitL 32 p) 0).length := strOfNums_size _
    have hz1 : (strOfNums (nth (splitL 32 p) 1)).size ≤ 1048576 := by rw [strOfNums_size]; exact (hpm 1 (by omega)).1
    have HN1 := Lib.hid (fun W => l01Number_c (strOfNums (nth (splitL 32 p) 1)) W hz1)
    rw [chars_strOf (hpm 1 (by omega)).2] at HN1
    have HDg : Hid (digsL (strOfNums (nth (splitL 32 p) 0)) = (nth (splitL 32 p) 0).map hexN) := Lib.hid (by unfold digsL; rw [chars_strOf (hpm 0 (by omega)).2])
    have HFl : Hid (decide ((splitL 32 p).length = 3) = false) := Lib.hid (by rw [← hn2]; rfl)
    have HOk := Lib.hid hOk
    clear hOk hpm hn2 hS2 hpin hpl hshape hz1
    generalize numOk (nth (splitL 32 p) 1) = k1 at *
    obtain ⟨v1, hv1⟩ : ∃ v, v = numN (nth (splitL 32 p) 1) := ⟨_, rfl⟩
    obtain ⟨dg, hdgv⟩ : ∃ v, v = (nth (splitL 32 p) 0).map hexN := ⟨_, rfl⟩
    rw [← hv1] at HN1
    rw [← hdgv] at HDg
    have HV1 := Lib.hid hv1
    have HDv := Lib.hid hdgv
    clear hv1 hdgv
    generalize (nth (splitL 32 p) 0).length = len0 at *
    generalize strOfNums (nth (splitL 32 p) 0) = t0 at *
    generalize strOfNums (nth (splitL 32 p) 1) = t1 at *
    rw [Nat.add_zero] at d0
    by_cases h12 : len0 ≤ 12
    · have hd12 : decide ((12 : Int) < (t0.size : Int)) = false := decide_eq_false (by omega)
      have HR := Lib.hid (fun W => l02Read_c t0 W (by omega))
      rw [HDg.out] at HR
      have HOk2 : Hid (aLineOkS p = k1) := Lib.hid (by rw [HOk.out, decide_eq_true h12]; rfl)
      clear HOk HDg hz0 h12
      go_wp2_with fail
      refine (HN1.out _).mono ?_
      rintro e w2 ⟨rfl, hb2⟩
      replace d0 := cell_then hbs2 d0 hb2
      go_wp2_with fail
      refine (HR.out _).mono ?_
      rintro e w3 ⟨a3, n3, c3, rfl, ho3, hb3⟩
      have B3 := Lib.hid ((B1.out.below hb2).below hb3)
      have HO3 := Lib.hid ho3
      have hsw : w.heap.size < w2.heap.size := Nat.lt_of_lt_of_le B1.out.1 hb2.size
      have hbw := bthen hb1 (bthen hb2 hb3)
      clear ho3 e1 f1 d0 d1
      obtain ⟨e1, f1⟩ := B3.out.cells
      go_wp2
      refine bodyPost_ret (v := .tuple #[.agg #[.slice a3 n3 c3, .int .i64 v1, .bool false], .bool k1]) (by simp [results, Tryz.results94, go_sem, e1]) rfl ?_
      refine ⟨a3, n3, c3, v1, false, by rw [HOk2.out], fun _ => ⟨?_, HV1.out, HFl.out.symm⟩, ?_⟩
      · refine own_mono (base' := w2.heap.size) ?_ (by omega)
        repeat (refine ownsRow_setCell_below ?_ (by simp only []; omega) _)
        rw [← HDv.out]; exact HO3.out
      · repeat (refine Below.setCell ?_ (by simp only []; omega) _)
        exact hbw
    · have hd12 : decide ((12 : Int) < (t0.size : Int)) = true := decide_eq_true (by omega)
      have HX : Hid (aLineOkS p = false) := Lib.hid (by rw [HOk.out, decide_eq_false h12]; rfl)
      clear HOk HDg hz0 h12
      go_wp2
      refine bodyPost_ret (v := .tuple #[.agg #[.slice none 0 0, .int .i64 0, .bool false], .bool false]) (by simp [results, Tryz.results94, go_sem, e1]) rfl ?_
      exact ⟨none, 0, 0, 0, false, by rw [HX.out], fun h => by rw [HX.out] at h; exact absurd h (by decide), by first | exact hb1 | (repeat (refine Below.setCell ?_ (by simp only []; omega) _)); exact hb1⟩
  · by_cases h3 : n2 = 3
    · subst h3
      obtain ⟨b2, o2, rfl, hbs2, d0⟩ := StrsC.at1 hS2 0 (by omega)
      obtain ⟨b3, o3, he3, -, d1⟩ := StrsC.at1 hS2 1 (by omega)
      cases he3
      obtain ⟨b4, o4, he4, -, d2⟩ := StrsC.at1 hS2 2 (by omega)
      cases he4
      have hm2 := dropC_str (nth (splitL 32 p) 2) (fun x hx => hpin x (split_mem 32 p _ (mem_nth (by omega)) x hx))
      have hcl4 : (⟨#[100, 114, 111, 112]⟩ : ByteArray).toList = [100, 114, 111, 112] := by rw [ByteArray.toList_eq]
      have hm3 := hm2
      rw [hcl4] at hm3
      generalize strOfNums (nth (splitL 32 p) 2) = t2 at *
      cases hdr : decide (nth (splitL 32 p) 2 = dropC)
      · rw [hdr] at hm2 hm3
        have HX : Hid (aLineOkS p = false) := Lib.hid (by unfold aLineOkS aShape; rw [← hn2, hdr]; rfl)
        clear hdr hn2 hS2
        go_wp2
        refine bodyPost_ret (v := .tuple #[.agg #[.slice none 0 0, .int .i64 0, .bool false], .bool false]) (by simp [results, Tryz.results94, go_sem, e1]) rfl ?_
        exact ⟨none, 0, 0, 0, false, by rw [HX.out], fun h => by rw [HX.out] at h; exact absurd h (by decide), by first | exact hb1 | (repeat (refine Below.setCell ?_ (by simp only []; omega) _)); exact hb1⟩
      · rw [hdr] at hm2 hm3
        have hshape : aShape p = true := by unfold aShape; rw [← hn2, hdr]; rfl
        clear hdr
        have hpm : ∀ i, i < (splitL 32 p).length → (nth (splitL 32 p) i).length ≤ 1048576 ∧ ∀ x ∈ nth (splitL 32 p) i, 0 ≤ x ∧ x ≤ 255 := fun i hi =>
          ⟨Nat.le_trans (split_len1 32 p _ (mem_nth hi)) hpl, fun x hx => hpin x (split_mem 32 p _ (mem_nth hi) x hx)⟩
        have hOk : aLineOkS p = (decide ((nth (splitL 32 p) 0).length ≤ 12) && numOk (nth (splitL 32 p) 1)) := by unfold aLineOkS; rw [hshape]; rfl
        have hz0 : (strOfNums (nth (splitL 32 p) 0)).size = (nth (splitL 32 p) 0).length := strOfNums_size _
        have hz1 : (strOfNums (nth (splitL 32 p) 1)).size ≤ 1048576 := by rw [strOfNums_size]; exact (hpm 1 (by omega)).1
        have HN1 := Lib.hid (fun W => l01Number_c (strOfNums (nth (splitL 32 p) 1)) W hz1)
        rw [chars_strOf (hpm 1 (by omega)).2] at HN1
        have HDg : Hid (digsL (strOfNums (nth (splitL 32 p) 0)) = (nth (splitL 32 p) 0).map hexN) := Lib.hid (by unfold digsL; rw [chars_strOf (hpm 0 (by omega)).2])
        have HFl : Hid (decide ((splitL 32 p).length = 3) = true) := Lib.hid (by rw [← hn2]; rfl)
        have HOk := Lib.hid hOk
        clear hOk hpm hn2 hS2 hpin hpl hshape hz1
        generalize numOk (nth (splitL 32 p) 1) = k1 at *
        obtain ⟨v1, hv1⟩ : ∃ v, v = numN (nth (splitL 32 p) 1) := ⟨_, rfl⟩
        obtain ⟨dg, hdgv⟩ : ∃ v, v = (nth (splitL 32 p) 0).map hexN := ⟨_, rfl⟩
        rw [← hv1] at HN1
        rw [← hdgv] at HDg
        have HV1 := Lib.hid hv1
        have HDv := Lib.hid hdgv
        clear hv1 hdgv
        generalize (nth (splitL 32 p) 0).length = len0 at *
        generalize strOfNums (nth (splitL 32 p) 0) = t0 at *
        generalize strOfNums (nth (splitL 32 p) 1) = t1 at *
        rw [Nat.add_zero] at d0
        by_cases h12 : len0 ≤ 12
        · have hd12 : decide ((12 : Int) < (t0.size : Int)) = false := decide_eq_false (by omega)
          have HR := Lib.hid (fun W => l02Read_c t0 W (by omega))
          rw [HDg.out] at HR
          have HOk2 : Hid (aLineOkS p = k1) := Lib.hid (by rw [HOk.out, decide_eq_true h12]; rfl)
          clear HOk HDg hz0 h12
          go_wp2_with fail
          refine (HN1.out _).mono ?_
          rintro e w2 ⟨rfl, hb2⟩
          replace d0 := cell_then hbs2 d0 hb2
          go_wp2_with fail
          refine (HR.out _).mono ?_
          rintro e w3 ⟨a3, n3, c3, rfl, ho3, hb3⟩
          have B3 := Lib.hid ((B1.out.below hb2).below hb3)
          have HO3 := Lib.hid ho3
          have hsw : w.heap.size < w2.heap.size := Nat.lt_of_lt_of_le B1.out.1 hb2.size
          have hbw := bthen hb1 (bthen hb2 hb3)
          clear ho3 e1 f1 d0 d1
          obtain ⟨e1, f1⟩ := B3.out.cells
          go_wp2
          refine bodyPost_ret (v := .tuple #[.agg #[.slice a3 n3 c3, .int .i64 v1, .bool true], .bool k1]) (by simp [results, Tryz.results94, go_sem, e1]) rfl ?_
          refine ⟨a3, n3, c3, v1, true, by rw [HOk2.out], fun _ => ⟨?_, HV1.out, HFl.out.symm⟩, ?_⟩
          · refine own_mono (base' := w2.heap.size) ?_ (by omega)
            repeat (refine ownsRow_setCell_below ?_ (by simp only []; omega) _)
            rw [← HDv.out]; exact HO3.out
          · repeat (refine Below.setCell ?_ (by simp only []; omega) _)
            exact hbw
        · have hd12 : decide ((12 : Int) < (t0.size : Int)) = true := decide_eq_true (by omega)
          have HX : Hid (aLineOkS p = false) := Lib.hid (by rw [HOk.out, decide_eq_false h12]; rfl)
          clear HOk HDg hz0 h12
          go_wp2
          refine bodyPost_ret (v := .tuple #[.agg #[.slice none 0 0, .int .i64 0, .bool false], .bool false]) (by simp [results, Tryz.results94, go_sem, e1]) rfl ?_
          exact ⟨none, 0, 0, 0, false, by rw [HX.out], fun h => by rw [HX.out] at h; exact absurd h (by decide), by first | exact hb1 | (repeat (refine Below.setCell ?_ (by simp only []; omega) _)); exact hb1⟩
    · have HX : Hid (aLineOkS p = false) := Lib.hid (by unfold aLineOkS aShape; rw [← hn2, decide_eq_false h2, decide_eq_false h3]; rfl)
      clear hS2
      by_cases hlo : n2 < 2
      · have hd1 : (n2 : Int) < 2 := by omega
        clear hn2 h2 h3
        go_wp2
        refine bodyPost_ret (v := .tuple #[.agg #[.slice none 0 0, .int .i64 0, .bool false], .bool false]) (by simp [results, Tryz.results94, go_sem, e1]) rfl ?_
        exact ⟨none, 0, 0, 0, false, by rw [HX.out], fun h => by rw [HX.out] at h; exact absurd h (by decide), by first | exact hb1 | (repeat (refine Below.setCell ?_ (by simp only []; omega) _)); exact hb1⟩
      · have hd1 : ¬ (n2 : Int) < 2 := by omega
        have hd2 : decide ((3 : Int) < (n2 : Int)) = true := decide_eq_true (by omega)
        clear hn2 h2 h3
        go_wp2
        refine bodyPost_ret (v := .tuple #[.agg #[.slice none 0 0, .int .i64 0, .bool false], .bool false]) (by simp [results, Tryz.results94, go_sem, e1]) rfl ?_
        exact ⟨none, 0, 0, 0, false, by rw [HX.out], fun h => by rw [HX.out] at h; exact absurd h (by decide), by first | exact hb1 | (repeat (refine Below.setCell ?_ (by simp only []; omega) _)); exact hb1⟩
set_option maxRecDepth 100000 in
set_option maxHeartbeats 4000000 in
theorem sReadAttempts_c (s : ByteArray) (w : World) (hs : s.size ≤ 1048576) : Calls Tryz.prog 34 #[.string s] w (GivesAttsB (raL (chars s)) (raOk (chars s)) w) := by
  have HQ := Lib.hid (l01Split_c s 10 w hs)
  have hcl : (chars s).length ≤ 1048576 := by rw [chars_len]; exact hs
  have Hin := Lib.hid (chars_in s)
  generalize chars s = cs at *
  have hSc := split_count 10 cs
  have hpos : 0 < (splitL 10 cs).length := List.length_pos_iff.2 (splitL_ne 10 cs)
  have hlast := linesOk_last (cs := cs)
  have Hsp : Hid (∀ p ∈ splitL 10 cs, p.length ≤ 1048576 ∧ ∀ x ∈ p, 0 ≤ x ∧ x ≤ 255) := Lib.hid (fun p hm => ⟨Nat.le_trans (split_len1 10 cs _ hm) hcl, fun x hx => Hin.out x (split_mem 10 cs _ hm x hx)⟩)
  have HLN := Lib.hid (fun h => raOk_lines (cs := cs) h)
  have HEq := Lib.hid (fun h => linesL_eq (cs := cs) h)
  generalize hSL : splitL 10 cs = SL at *
  clear hSL
  go_enter Tryz.func34, Tryz.ntmps34
  go_wp2_with fail
  refine HQ.out.mono ?_
  rintro e w1 ⟨a1, m, c1, rfl, ho1, hb1⟩
  obtain ⟨ax, nx, cx, he, hn1, -, -, hS⟩ := OwnStrs.at ho1
  cases he
  rw [List.length_map] at hn1
  have HS := Lib.hid hS
  have Hn := Lib.hid hn1
  clear ho1 hS HQ
  have hm1 : 1 ≤ m := by omega
  have hm20 : m ≤ 1048577 := by omega
  have hw1 : IntKind.i64.wrap ((m : Int) - 1) = (m : Int) - 1 := IntWalk.i64_in _ (by omega)
  obtain ⟨b, o, rfl, hbs, c0⟩ := HS.out.at1 (m - 1) (by rw [← Hn.out]; omega)
  rw [← hn1] at hlast
  have hmm : m - 1 < m := by omega
  generalize hLa : nth SL (m - 1) = la at *
  have HLa := Lib.hid hLa
  clear hLa hn1 hpos hSc
  by_cases h0 : la = []
  · subst h0
    have HLO : Hid (linesOk cs = true) := Lib.hid (by rw [hlast]; rfl)
    have HLL : Hid (linesL cs = SL.dropLast) := Lib.hid (HEq.out HLO.out)
    have hll : SL.dropLast.length = m - 1 := by rw [List.length_dropLast, ← Hn.out]
    have he : (strOfNums []).toList.isEmpty = true := by rw [isEmpty_size, strOfNums_size]; rfl
    by_cases h41 : 101 < m
    · have HX : Hid (raOk cs = false) := Lib.hid (raOk_long (by rw [HLL.out, hll]; omega))
      have hd : decide ((101 : Int) < (m : Int)) = true := decide_eq_true (by omega)
      clear hlast hll
      generalize strOfNums [] = la at *
      go_wp2
      go_ret2
      exact GivesAttsB.none (raL_no HX.out) HX.out (hb1.alloc hb1.size _)
    · have hd : decide ((101 : Int) < (m : Int)) = false := decide_eq_false (by omega)
      have HNo : Hid (∀ k, k + 1 < m → aLineOkS (nth SL k) = false → raOk cs = false) := Lib.hid (fun k hk h => raOk_badS (k := k) (by rw [HLL.out, hll]; omega) (by rw [HLL.out, nth_dropLast _ _ (by rw [← Hn.out]; exact hk)]; exact h))
      have HAll : Hid ((∀ k, k + 1 < m → aLineOkS (nth SL k) = true) → raOk cs = okAtts ((SL.take (m - 1)).map aLineAtt)) := Lib.hid (fun h => by
        rw [raOk_allS HLO.out (fun j hj => by
          rw [HLL.out, hll] at hj
          rw [HLL.out, nth_dropLast _ _ (by rw [← Hn.out]; omega)]
          exact h j (by omega)), HLL.out, List.dropLast_eq_take, ← Hn.out])
      have HYes : Hid (raOk cs = true → raL cs = (SL.take (m - 1)).map aLineAtt) := Lib.hid (fun h => by rw [raL_yes h, HLL.out, List.dropLast_eq_take, ← Hn.out])
      clear hlast hll
      generalize strOfNums [] = la at *
      go_wp2
      go_loopw [5, 6] (fun s i wr => ∃ (k : Nat) (a' : Option Addr) (n' c' : Nat), i = .int .i64 k ∧ k + 1 ≤ m ∧ s = .slice a' n' c' ∧ Hid (OwnAtts wr w1.heap.size (.slice a' n' c') ((SL.take k).map aLineAtt)) ∧ Hid (∀ j, j < k → aLineOkS (nth SL j) = true) ∧ Below w1.heap.size w1 wr) (fun _ i _ => m - 1 - (intOf i).toNat)
      case atStart => exact ⟨0, _, _, _, rfl, by omega, rfl, Lib.hid (own_atts_empty w1), Lib.hid (fun j h => absurd h (Nat.not_lt_zero _)), by go_grown⟩
      case round =>
        obtain ⟨k, a', n', c', rfl, hk, rfl, HO, HG, hb⟩ := hrel
        by_cases hlt : k + 1 < m
        · have hd2 : decide ((k : Int) < (m : Int) - 1) = true := decide_eq_true (by omega)
          have hkl : k < SL.length := by rw [← Hn.out]; omega
          obtain ⟨b', o', he', -, c2⟩ := HS.out.at1 k hkl
          cases he'
          replace c2 := cell_then hbs c2 hb
          obtain ⟨hpl, hpin⟩ := Hsp.out _ (mem_nth hkl)
          have HBad := Lib.hid (HNo.out k hlt)
          have HT : Hid ((SL.take (k + 1)).map aLineAtt = (SL.take k).map aLineAtt ++ [aLineAtt (nth SL k)]) := Lib.hid (by rw [take_nth SL k hkl, List.map_append]; rfl)
          have HG2 : Hid (aLineOkS (nth SL k) = true → ∀ j, j < k + 1 → aLineOkS (nth SL j) = true) := Lib.hid (fun h j hj => by
            rcases Nat.lt_succ_iff_lt_or_eq.1 hj with h1 | rfl
            · exact HG.out j h1
            · exact h)
          have hk1 : k < m := by omega
          obtain ⟨ps, hps, hN⟩ := InNest.of HO.out
          have hlen : ps.length = k := by have := congrArg List.length hps; rw [List.length_map, List.length_map, List.length_take, ← Hn.out] at this; omega
          have HN := Lib.hid hN
          have Hps := Lib.hid hps
          have Hlen := Lib.hid hlen
          have hs0 := hb.size
          clear hkl HG hN hps hlen
          generalize nth SL k = p at *
          have hts : (strOfNums p).size ≤ 1048576 := by rw [strOfNums_size]; exact hpl
          have HQ1 := Lib.hid (l24Line_c (strOfNums p) wr hts)
          rw [chars_strOf hpin] at HQ1
          generalize strOfNums p = tx at *
          cases hok : aLineOkS p
          · rw [hok] at HQ1
            have HX := Lib.hid (HBad.out hok)
            clear HBad HG2 hok
            go_wp2_with fail
            refine HQ1.out.mono ?_
            rintro e w2 ⟨a3, n3, c3, v1, d1, rfl, -, hb2⟩
            go_wp2
            go_ret2
            exact GivesAttsB.none (raL_no HX.out) HX.out (by first | exact bthen hb1 (bthen hb hb2) | exact (bthen hb1 (bthen hb hb2)).alloc (bthen hb1 (bthen hb hb2)).size _)
          · rw [hok] at HQ1
            have HG3 := Lib.hid (HG2.out hok)
            clear HBad HG2 hok
            go_wp2_with fail
            refine HQ1.out.mono ?_
            rintro e w2 ⟨a3, n3, c3, v1, d1, rfl, hok2, hb2⟩
            obtain ⟨ho3, hv1, hd1⟩ := hok2 (by trivial)
            have HIt : Hid (aLineAtt p = ⟨(nth (splitL 32 p) 0).map hexN, v1, d1⟩) := Lib.hid (by unfold aLineAtt; rw [hv1, hd1])
            have HI : Hid (InInts w2 wr.heap.size w2.heap.size (.slice a3 n3 c3) ((nth (splitL 32 p) 0).map hexN)) := Lib.hid (InInts.of ho3)
            clear ho3 hv1 hd1 hok2 hpin
            generalize (nth (splitL 32 p) 0).map hexN = dg at *
            have hbb := bthen hb hb2
            have hs2 := hb2.size
            have HN2 := Lib.hid (HN.out.below hb2)
            go_wp2_with (at_builtin; refine wpList_app_atts rfl _ _ rfl w1.heap.size _ ps.length _ rfl (HN2.out.below ((go_below_allocA _ _).alloc (by simp) _)).row.1 _ 1 1 [.slice a3 n3 c3, .int .i64 v1, .bool d1] rfl (att_new2 _ _ (by simp) _ _ _ _) (by intro y hy; simp at hy; rcases hy with rfl | rfl | rfl <;> rfl) (by have := Hlen.out; omega) (by simp; omega) ?_)
            intro a9 n9 c9 w9 hn9 ho9 hg9 hl9
            have hb9 : Below w1.heap.size w1 w9 := ((hbb.alloc (by omega) _).alloc (by simp; omega) _).grown hg9 (by simp; omega) (fun g hg => (HN2.out.row.1.lt g hg).1)
            have HO9 : Hid (OwnAtts w9 w1.heap.size (.slice a9 n9 c9) ((SL.take (k + 1)).map aLineAtt)) := Lib.hid (by
              have h := nest_snoc (x := (⟨dg, v1, d1⟩ : Att)) (hi := wr.heap.size) (HN2.out.below ((go_below_allocA _ _).alloc (by simp) _)) (HI.out.below ((go_below_allocA _ _).alloc (by simp) _)) (by omega) ⟨_, _, _, rfl⟩ trivial (by simp; omega) ho9 hg9 (by simpa using hl9)
              rw [Hps.out] at h
              rw [HT.out, HIt.out]
              exact h)
            clear ho9 hg9 hl9 hn9 HN HN2 HI Hps
            go_wp2
            exact ⟨⟨k + 1, a9, n9, c9, by go_num, hlt, rfl, HO9, HG3, hb9⟩, by simp [intOf]; omega⟩
        · have hd2 : decide ((k : Int) < (m : Int) - 1) = false := decide_eq_false (by omega)
          have hkm : m - 1 = k := by omega
          rw [hkm] at HAll HYes
          have HE := Lib.hid (HAll.out (fun j hj => HG.out j (by omega)))
          have HV := Lib.hid (l24Ok_c (.slice a' n' c') ((SL.take k).map aLineAtt) wr (OwnAtts.at HO.out))
          rw [← HE.out] at HV
          clear HE HG HAll HNo hkm
          have hs1 := hb1.size
          cases hR : raOk cs
          · rw [hR] at HV
            have HX := Lib.hid hR
            clear hR
            go_wp2_with fail
            refine HV.out.mono ?_
            rintro e w2 ⟨rfl, hb2⟩
            go_wp2
            go_ret2
            exact GivesAttsB.none (raL_no HX.out) HX.out (bthen hb1 (bthen hb hb2))
          · rw [hR] at HV
            have HX := Lib.hid (HYes.out hR)
            have HX2 := Lib.hid hR
            clear hR
            go_wp2_with fail
            refine HV.out.mono ?_
            rintro e w2 ⟨rfl, hb2⟩
            go_wp2
            go_ret2
            exact GivesAttsB.mk HX2.out (by rw [HX.out]; exact OwnAtts.mono (OwnNest.below HO.out hb2) hs1) (bthen hb1 (bthen hb hb2))
  · have he : (strOfNums la).toList.isEmpty = false := by
      rw [isEmpty_size, strOfNums_size]
      exact decide_eq_false (fun h => h0 (List.eq_nil_of_length_eq_zero h))
    have HX : Hid (raOk cs = false) := Lib.hid (HLN.out (by
      rw [hlast]
      cases la with
      | nil => exact absurd rfl h0
      | cons x y => rfl))
    clear hlast h0
    generalize strOfNums la = la' at *
    go_wp2
    go_ret2
    exact GivesAttsB.none (raL_no HX.out) HX.out (hb1.alloc hb1.size _)
end Go.Proofs.YtclffohjpbmnbaaGreatDoor
