/- walk of scrivkeep.TierOwn. -/
import Derived.Test.YtfncpcmaplhojaaMTierOwn15
import Derived.Test.YtfncpcmaplhojaaMTierOwn20
import Derived.Test.YtfncpcmaplhojaaMTierOwn21
import Derived.Test.YtfncpcmaplhojaaMTierOwn6
import Derived.Test.YtfncpcmaplhojaaMTierOwn7
namespace Go.Proofs.Ytfncpcmaplhojaa
open Go.ChangeShapes Go.WideShapes Go.RowKit
set_option linter.unusedVariables false
set_option linter.unusedSimpArgs false
set_option maxRecDepth 100000
set_option maxHeartbeats 4000000

def mk3 : List Pt := [mk9, mk9, mk9]
/-- the slices of deltas with room -/
def ssR : List Nat → List Rv → List Sl
  | g :: gs, r :: l => (some ⟨g, 0, none⟩, r.2.2.length, r.2.2.length + 3) :: ssR gs l
  | _, _ => []
theorem ssR_len : ∀ (gs : List Nat) (l : List Rv), gs.length = l.length → (ssR gs l).length = l.length
  | [], [], _ => rfl
  | [], _ :: _, h => by simp at h
  | _ :: _, [], h => by simp at h
  | g :: gs, r :: l, h => by simp only [ssR, List.length_cons]; rw [ssR_len gs l (by simpa using h)]
theorem ssR_at : ∀ (gs : List Nat) (l : List Rv) (h : gs.length = l.length) (k : Nat) (hk : k < l.length), (ssR gs l)[k]'(by rw [ssR_len gs l h]; exact hk) = (some ⟨gs[k]'(by omega), 0, none⟩, l[k].2.2.length, l[k].2.2.length + 3)
  | [], [], _, k, hk => absurd hk (by simp)
  | [], _ :: _, h, _, _ => by simp at h
  | _ :: _, [], h, _, _ => by simp at h
  | g :: gs, r :: l, h, 0, hk => rfl
  | g :: gs, r :: l, h, k + 1, hk => by
    have := ssR_at gs l (by simpa using h) k (by simpa using hk)
    simpa [ssR] using this
theorem ssR_snoc : ∀ (gs : List Nat) (l : List Rv) (g : Nat) (r : Rv), gs.length = l.length → ssR (gs ++ [g]) (l ++ [r]) = ssR gs l ++ [(some ⟨g, 0, none⟩, r.2.2.length, r.2.2.length + 3)]
  | [], [], g, r, _ => rfl
  | [], _ :: _, _, _, h => by simp at h
  | _ :: _, [], _, _, h => by simp at h
  | g' :: gs, r' :: l, g, r, h => by simp only [List.cons_append, ssR]; rw [ssR_snoc gs l g r (by simpa using h)]
/-- a history with room behind its deltas; from the k0-th on nothing is spoilt -/
structure InV (w : World) (B : Nat) (v : Value) (gs : List Nat) (l : List Rv) (k0 : Nat) : Prop where
  len : gs.length = l.length
  row : w.ownsRow B 29 3 v l.length (rc l (ssR gs l))
  room : ∀ k (h : k < l.length), k0 ≤ k → Room w B (gs[k]'(by omega)) l[k].2.2.length (l[k].2.2 ++ mk3)
  inc : gs.Pairwise (· < ·)
theorem InV.nil (w : World) (B : Nat) : InV w B (.slice none 0 0) [] [] 0 := ⟨rfl, World.ownsRow_nil _ _ _ _, fun k h => absurd h (by simp), List.Pairwise.nil⟩
theorem InV.below {w w' : World} {B : Nat} {v : Value} {gs : List Nat} {l : List Rv} {k0 : Nat} (h : InV w B v gs l k0) (hb : Below w.heap.size w w') : InV w' B v gs l k0 :=
  ⟨h.len, own_below h.row hb, fun k hk h0 => (h.room k hk h0).step hb, h.inc⟩
theorem InV.lt {w : World} {B : Nat} {v : Value} {gs : List Nat} {l : List Rv} (h : InV w B v gs l 0) : ∀ g ∈ gs, B ≤ g ∧ g < w.heap.size := by
  intro g hg
  obtain ⟨k, hk, rfl⟩ := List.getElem_of_mem hg
  have hr := h.room k (by rw [← h.len]; exact hk) (Nat.zero_le _)
  exact ⟨hr.1, hr.lt⟩
theorem Room.blk {w : World} {B g n : Nat} {l : List Pt} (h : Room w B g n l) : ∃ cs, Blk w g 45 cs := by
  obtain ⟨_, cs, hb, _⟩ := h
  exact ⟨cs, hb⟩
theorem Room.grown {w w' : World} {B g n : Nat} {l : List Pt} {row : Option Nat} (h : Room w B g n l) (hb : w.grownBy w' row) (hne : some g ≠ row) : Room w' B g n l := by
  obtain ⟨h1, cs, hk, hs, hc⟩ := h
  exact ⟨h1, cs, hk.grown hb hne, hs, hc⟩
theorem InV.snoc {w w' : World} {B : Nat} {v v' : Value} {gs : List Nat} {l : List Rv} (h : InV w B v gs l 0) (g : Nat) (r : Rv) (hr : Room w B g r.2.2.length (r.2.2 ++ mk3)) (hg : ∀ g' ∈ gs, g' < g)
    (hrow : w'.ownsRow B 29 3 v' (l.length + 1) (rc (l ++ [r]) (ssR gs l ++ [(some ⟨g, 0, none⟩, r.2.2.length, r.2.2.length + 3)]))) (hgr : w.grownBy w' v.ownBlock) : InV w' B v' (gs ++ [g]) (l ++ [r]) 0 := by
  have hne : ∀ {g : Nat} {n : Nat} {m : List Pt}, Room w B g n m → some g ≠ v.ownBlock := fun hR e => by
    obtain ⟨cs, hb⟩ := hR.blk
    exact own_blk_ne h.row hb (by decide) e.symm
  refine ⟨by simp [h.len], ?_, fun k hk _ => ?_, ?_⟩
  · rw [ssR_snoc gs l g r h.len, List.length_append, List.length_singleton]
    exact hrow
  · rw [List.length_append, List.length_singleton] at hk
    by_cases hkl : k < l.length
    · have e1 : (l ++ [r])[k]'(by simp; omega) = l[k] := List.getElem_append_left hkl
      have e2 : (gs ++ [g])[k]'(by simp [h.len]; omega) = gs[k]'(by rw [h.len]; exact hkl) := List.getElem_append_left (by rw [h.len]; exact hkl)
      rw [e1, e2]
      have hR := h.room k hkl (Nat.zero_le _)
      exact hR.grown hgr (hne hR)
    · obtain rfl : k = l.length := by omega
      have e1 : (l ++ [r])[l.length]'(by simp) = r := by simp
      have e2 : (gs ++ [g])[l.length]'(by simp [h.len]) = g := by simp [← h.len]
      rw [e1, e2]
      exact hr.grown hgr (hne hr)
  · rw [List.pairwise_append]
    exact ⟨h.inc, List.pairwise_singleton _ _, fun a ha b hb => by rw [List.mem_singleton] at hb; rw [hb]; exact hg a ha⟩
theorem InV.form {w : World} {B : Nat} {v : Value} {gs : List Nat} {l : List Rv} {k0 : Nat} (h : InV w B v gs l k0) : ∃ A c, v = .slice A l.length c := by
  rcases h.row.2 with ⟨rfl, h0⟩ | ⟨g, cap, cur, rfl, _⟩
  · exact ⟨none, 0, by rw [h0]⟩
  · exact ⟨_, _, rfl⟩
theorem InV.rd {w w0 : World} {B B0 n c A0 n0 : Nat} {A : Option Addr} {Al : Option Addr} {gs : List Nat} {l : List Rv} (h : InV w B (.slice A n c) gs l 0) (h0 : RdRN w0 B0 Al n0 A0 l) : RdR w w.heap.size A n c l := by
  obtain ⟨A', c', e, hr⟩ := Rd.own h.row
  injection e with e1 e2 e3
  subst e1; subst e2; subst e3
  refine ⟨rfl, ssR gs l, ssR_len gs l h.len, hr, fun k hk => ?_⟩
  rw [ssR_at gs l h.len k hk]
  obtain ⟨b, o, A1, n1, c1, _, _, _, _, _, hrd, hn1, _⟩ := h0.at_ k (by have := h0.1; omega)
  have hl := hrd.1
  have hR := h.room k hk (Nat.zero_le _)
  rw [← hl] at hR ⊢
  exact hR.rd hrd hn1
theorem InV.at_ {w : World} {B n c k0 : Nat} {A : Option Addr} {gs : List Nat} {l : List Rv} (h : InV w B (.slice A n c) gs l k0) (k : Nat) (hk : k < l.length) :
    ∃ b, A = some ⟨b, 0, none⟩ ∧ b < w.heap.size ∧ w.cell? ⟨b, k * 3, none⟩ = some (.int .i64 l[k].1) ∧ w.cell? ⟨b, k * 3 + 1, none⟩ = some (.int .i64 l[k].2.1) ∧ w.cell? ⟨b, k * 3 + 2, none⟩ = some (.slice (some ⟨gs[k]'(by have := h.len; omega), 0, none⟩) l[k].2.2.length (l[k].2.2.length + 3)) := by
  obtain ⟨b, cc, e, _⟩ := World.ownsRow.form h.row (by omega)
  injection e with e1 e2 e3
  subst e1; subst e2
  have hl : (ssR gs l).length = l.length := ssR_len gs l h.len
  obtain ⟨q0, q1, q2⟩ := rc_at l (ssR gs l) hl k hk
  rw [ssR_at gs l h.len k hk] at q2
  have hlen := rc_len l (ssR gs l) hl
  refine ⟨b, rfl, (World.ownsRow.lt h.row b rfl).2, ?_, ?_, ?_⟩
  · rw [World.ownsRow.cellAt h.row (k * 3) (by omega)]; exact q0
  · rw [World.ownsRow.cellAt h.row (k * 3 + 1) (by omega)]; exact q1
  · rw [World.ownsRow.cellAt h.row (k * 3 + 2) (by omega)]; exact q2
theorem InV.spoil {w w' : World} {B n c : Nat} {A : Option Addr} {gs : List Nat} {l : List Rv} (k : Nat) (hk : k < l.length) (h : InV w B (.slice A n c) gs l k) (ho : Only w w' (fun q => q = gs[k]'(by have := h.len; omega))) : InV w' B (.slice A n c) gs l (k + 1) := by
  obtain ⟨cs, hb⟩ := (h.room k hk (Nat.le_refl _)).blk
  refine ⟨h.len, own_only h.row ho fun q hq hs => ?_, fun j hj h0 => (h.room j hj (by omega)).only ho ?_, h.inc⟩
  · have hs : q = gs[k]'(by have := h.len; omega) := hs
    rw [hs] at hq
    exact own_blk_ne h.row hb (by decide) hq
  · intro e
    have e : gs[j]'(by have := h.len; omega) = gs[k]'(by have := h.len; omega) := e
    have := List.pairwise_iff_getElem.1 h.inc k j (by have := h.len; omega) (by have := h.len; omega) (by omega)
    omega
/-- append of one revision to a history of the call's own, in a region that draws -/
theorem step_app_rv {ops : Array Oper} {o : Oper} {a : Act} {K : Act → World → Prop} {Q : Exit → Act → World → Prop} {E : Prop} (w : World) (hgd : o.guard = none) (s x : Operand)
    (ho : o.op = .call { callee := .builtin .append, args := #[s, x], argTypes := #[22, 22] })
    (B : Nat) (v : Value) (ss : List Sl) (l : List Rv) (hs : a.eval s = v) (hown : w.ownsRow B 29 3 v l.length (rc l ss)) (hss : ss.length = l.length)
    (r : Rv) (d : Sl) (c : Nat) (hx : a.eval x = .slice (some ⟨w.heap.size, 0, none⟩) 1 c)
    (hn : l.length < 3518437208880) (hB : B ≤ w.heap.size)
    (h : ∀ v' w', w'.ownsRow B 29 3 v' (l.length + 1) (rc (l ++ [r]) (ss ++ [d])) → Below B w w' → w.grownBy w' v.ownBlock → K (a.put o.dst v') w') :
    if Region.wanted o (yielded ops a.tmps) = true then Oper.wp Try.prog o a (w.alloc (.cells #[.int .i64 r.1, .int .i64 r.2.1, .slice d.1 d.2.1 d.2.2] 29)) K Q else E := by
  obtain ⟨i0, hi, hz0, hz1, hz2⟩ := info_parts Try.info_rev
  refine step_append_any _ hgd s x 22 ho B 29 i0 _ 3 40 Try.underlying22 hi hz0 hz1 hz2 rfl (by omega) v _ _ hs (World.ownsRow.alloc hown _) (w.heap.size + 1) _ 1 c [.int .i64 r.1, .int .i64 r.2.1, .slice d.1 d.2.1 d.2.2] hx ?_ (by simp [Value.oneCell']) (by simp only [maxLen]; omega) (by omega) (by simp; omega) ?_
  · refine ⟨by simp, fun _ => ⟨_, rfl, by simp, fun j u hj => ?_⟩⟩
    have e1 : (w.alloc (.cells #[.int .i64 r.1, .int .i64 r.2.1, .slice d.1 d.2.1 d.2.2] 29)).heap[w.heap.size]? = some (.cells #[.int .i64 r.1, .int .i64 r.2.1, .slice d.1 d.2.1 d.2.2] 29) := heap_alloc_new w _
    rw [add0, cell_of_row _ _ j _ _ _ e1]
    simpa using hj
  · intro v' w' h2 h3 h4
    have hg := grown_unalloc h3
    refine h v' w' ?_ (below_grown hg hB (own_ge hown)) hg
    rw [rc_append l [r] ss [d] hss]
    exact h2
/-- tier.Build, whatever comes of it -/
theorem build_or (base : ByteArray) (hbs : base.size ≤ 140737488351232) (l : List Rv) (A : Option Addr) (n c : Nat) (w : World) (h : RdR w w.heap.size A n c l) (E : Int) (hE : txE base l = E) :
    Calls Try.prog 15 #[.string base, .slice A n c] w fun e w' => ∃ At mt ct rs uss, e = .returned (.tuple #[.slice At mt ct, .int .i64 E]) ∧ (E ≠ 0 → mt = 0) ∧ (E = 0 → mt = (tiersL l).length ∧ OwnTier w' w.heap.size (.slice At mt ct) rs uss (tiersL l) ∧ Inc uss.flatten) ∧ Below w.heap.size w w' := by
  by_cases he : E = 0
  · subst he
    refine (build_rd base l A n c w h hE _ rfl).mono ?_
    rintro e w' ⟨A1, c1, rs, uss, rfl, h1, h2, h3⟩
    exact ⟨_, _, _, rs, uss, rfl, fun h => absurd rfl h, fun _ => ⟨rfl, h1, h2⟩, h3⟩
  · refine (build_err base l A n c w.heap.size w h (Nat.le_refl _) (by omega) (by rw [hE]; exact he)).mono ?_
    rintro e w' ⟨rfl, hb⟩
    exact ⟨none, 0, 0, [], [], by rw [hE], fun _ => rfl, fun h => absurd h he, hb⟩
theorem walk_TierOwn (base : ByteArray) (hbs : base.size ≤ 140737488351232) (v : Value) (l : List Rv) (i0 : Int) (wi0 : (Lit.int .i64 i0).wf = true) (k0 : Int) (wk0 : (Lit.int .i64 k0).wf = true) (w : World) (h : IsRevsN w v l) :
    Calls Try.prog 5 #[.string base, v, .int .i64 i0, .int .i64 k0] w fun e w' => e = .returned (.bool true) ∧ Below w.heap.size w w' := by
  obtain ⟨A, n, c, rfl, hrd, hn⟩ := h
  have Hnl := Lib.hid hrd.1
  have hle : (n : Int) ≤ 9223372036854775807 := by omega
  have HL := Lib.hid hrd
  clear hrd
  obtain ⟨g0, hg0⟩ : ∃ g0, w.heap.size = g0 := ⟨_, rfl⟩
  have HgW := Lib.hid hg0
  have HL := Lib.hid (hg0 ▸ HL.out)
  go_enter Try.func5, Try.ntmps5
  go_upto_region 3 with (fail)
  go_loopw [9, 11, 24] (fun vv q1 iv wr => ∃ (k : Nat) (Ai : Option Addr) (ni ci : Nat) (gs : List Nat), k ≤ n ∧ iv = .int .i64 k ∧ vv = .slice Ai ni ci ∧ Hid (ni = k) ∧ Hid (InV wr g0 (.slice Ai ni ci) gs (l.take k) 0) ∧ Hid (Below g0 w wr)) (fun _ _ iv _ => n - (intOf iv).toNat)
  case atStart => exact ⟨0, none, 0, 0, [], by omega, rfl, rfl, Lib.hid rfl, Lib.hid (InV.nil _ _), Lib.hid (Below.refl _ _)⟩
  case round =>
    obtain ⟨k, Ai, ni, ci, gs, hk, rfl, rfl, hni, hI, hbw⟩ := hrel
    by_cases hlt : k < n
    · have hkl : k < l.length := by have := Hnl.out; omega
      have htk : l.take (k + 1) = l.take k ++ [l[k]] := List.take_succ_eq_append_getElem hkl
      have hlk : (l.take k).length = k := by rw [List.length_take]; omega
      obtain ⟨b, o, A1, n1, c1, rfl, hbl, d0, d1, d2, hrd, hn1, hA1⟩ := (HL.out.below hbw.out).at_ k hlt
      obtain ⟨f, hf⟩ : ∃ f, l[k] = f := ⟨_, rfl⟩
      rw [hf] at htk d0 d1 hrd
      obtain ⟨ra, rb, d⟩ := f
      simp only at d0 d1 d2 hrd
      have hdl : n1 = d.length := hrd.1
      have hgw : g0 ≤ wr.heap.size := by have := hbw.out.size; have := HgW.out; omega
      have hbw' : b < wr.heap.size := by omega
      have hk0 : (0 : Int) ≤ (k : Int) := by omega
      have hkn : (k : Int) < (n : Int) := by omega
      have Hrd := Lib.hid (hrd.more hgw)
      have HA1 := Lib.hid hA1
      have Htk := Lib.hid htk
      have Hlk := Lib.hid hlk
      have Hdl := Lib.hid hdl
      clear hrd hA1 htk hlk hdl hf
      go_upto_region 5 with (fail)
      have hI0 := hI.out.row
      have hI2 := hI.out.below ((Below.refl wr.heap.size wr).alloc (Nat.le_refl _) (.cells #[.int .i64 ra, .int .i64 rb, .slice A1 n1 c1] 29))
      have hb := hbw.out.alloc hgw (.cells #[.int .i64 ra, .int .i64 rb, .slice A1 n1 c1] 29)
      have kz := Blk.new wr 29 #[.int .i64 ra, .int .i64 rb, .slice A1 n1 c1]
      have Hrd2 := Lib.hid (Hrd.out.stepA (.cells #[.int .i64 ra, .int .i64 rb, .slice A1 n1 c1] 29))
      have hs1 : (wr.alloc (.cells #[.int .i64 ra, .int .i64 rb, .slice A1 n1 c1] 29)).heap.size = wr.heap.size + 1 := World.size_alloc _ _
      obtain ⟨U, hU⟩ : ∃ U, wr.alloc (.cells #[.int .i64 ra, .int .i64 rb, .slice A1 n1 c1] 29) = U := ⟨_, rfl⟩
      rw [hU] at hI2 hb kz Hrd2 hs1 ⊢
      obtain ⟨z, hz⟩ : ∃ z, wr.heap.size = z := ⟨_, rfl⟩
      rw [hz] at kz hs1 hgw ⊢
      have HI := Lib.hid hI2
      have Hb := Lib.hid hb
      have hgU : g0 ≤ U.heap.size := by omega
      have a0 := kz.cell 0
      have a1 := kz.cell 1
      have a2 := kz.cell 2
      have lz := kz.lt
      have HgU := Lib.hid hgU
      have Kz := Lib.hid kz
      have Hzz := Lib.hid hz
      have hlen2 : (l.take k).length < 3518437208880 := by rw [Hlk.out]; omega
      have Hlen := Lib.hid hlen2
      have Hss := Lib.hid (ssR_len gs (l.take k) hI2.len)
      clear d0 d1 d2 hbl hbw' hU hz hs1 kz hI hbw Hrd hI2 hb hgU hgw hlen2
      have hzr : ∀ q, (Value.slice Ai ni ci).ownBlock = some q → q < z := fun q hq => Hzz.out ▸ own_lt hI0 q hq
      have Hzr := Lib.hid hzr
      have KeepB := Lib.hid (fun (w' : World) (h : Blk w' z 29 #[.int .i64 ra, .int .i64 rb, .slice A1 n1 c1]) => (⟨h, h.cell 0, h.cell 1, h.cell 2, h.lt⟩ : Blk w' z 29 #[.int .i64 ra, .int .i64 rb, .slice A1 n1 c1] ∧ w'.cell? ⟨z, 0, none⟩ = some (.int .i64 ra) ∧ w'.cell? ⟨z, 1, none⟩ = some (.int .i64 rb) ∧ w'.cell? ⟨z, 2, none⟩ = some (.slice A1 n1 c1) ∧ z < w'.heap.size))
      have KeepS := Lib.hid (fun (w' : World) (h : Below U.heap.size U w') => KeepB.out w' (Kz.out.below h lz))
      have KeepA := Lib.hid (fun (w' : World) (ob : Obj) (h : Blk w' z 29 #[.int .i64 ra, .int .i64 rb, .slice A1 n1 c1] ∧ w'.cell? ⟨z, 0, none⟩ = some (.int .i64 ra) ∧ w'.cell? ⟨z, 1, none⟩ = some (.int .i64 rb) ∧ w'.cell? ⟨z, 2, none⟩ = some (.slice A1 n1 c1) ∧ z < w'.heap.size) => KeepB.out (w'.alloc ob) (h.1.alloc ob))
      have KeepG := Lib.hid (fun (w' w'' : World) (h : Blk w' z 29 #[.int .i64 ra, .int .i64 rb, .slice A1 n1 c1] ∧ w'.cell? ⟨z, 0, none⟩ = some (.int .i64 ra) ∧ w'.cell? ⟨z, 1, none⟩ = some (.int .i64 rb) ∧ w'.cell? ⟨z, 2, none⟩ = some (.slice A1 n1 c1) ∧ z < w'.heap.size) (hg : w'.grownBy w'' (Value.slice Ai ni ci).ownBlock) => KeepB.out w'' (h.1.grown hg (fun e => by have := Hzr.out z e.symm; omega)))
      have G1 := Lib.hid (fun (w' : World) (h : Blk w' z 29 #[.int .i64 ra, .int .i64 rb, .slice A1 n1 c1] ∧ w'.cell? ⟨z, 0, none⟩ = some (.int .i64 ra) ∧ w'.cell? ⟨z, 1, none⟩ = some (.int .i64 rb) ∧ w'.cell? ⟨z, 2, none⟩ = some (.slice A1 n1 c1) ∧ z < w'.heap.size) (hB : Below U.heap.size U w') => (mark_any w').mono (R' := fun e w'' => e = .returned (.agg #[.int .i64 9, .int .i64 0, .string ⟨#[109, 97, 114, 107]⟩]) ∧ (Blk w'' z 29 #[.int .i64 ra, .int .i64 rb, .slice A1 n1 c1] ∧ w''.cell? ⟨z, 0, none⟩ = some (.int .i64 ra) ∧ w''.cell? ⟨z, 1, none⟩ = some (.int .i64 rb) ∧ w''.cell? ⟨z, 2, none⟩ = some (.slice A1 n1 c1) ∧ z < w''.heap.size) ∧ Below U.heap.size U w'') (fun e w'' hh => ⟨hh.1, KeepS.out _ (hB.trans (hh.2.mono hB.size)), hB.trans (hh.2.mono hB.size)⟩))
      have G2 : Hid (∀ (w' : World), Blk w' z 29 #[.int .i64 ra, .int .i64 rb, .slice A1 n1 c1] ∧ w'.cell? ⟨z, 0, none⟩ = some (.int .i64 ra) ∧ w'.cell? ⟨z, 1, none⟩ = some (.int .i64 rb) ∧ w'.cell? ⟨z, 2, none⟩ = some (.slice A1 n1 c1) ∧ z < w'.heap.size → Below U.heap.size U w' → Calls Try.prog 25 #[.slice A1 n1 c1, .agg #[.int .i64 9, .int .i64 0, .string ⟨#[109, 97, 114, 107]⟩]] w' (fun e w'' => ∃ gx, e = .returned (.slice (some ⟨gx, 0, none⟩) n1 (n1 + 3)) ∧ (Blk w'' z 29 #[.int .i64 ra, .int .i64 rb, .slice A1 n1 c1] ∧ w''.cell? ⟨z, 0, none⟩ = some (.int .i64 ra) ∧ w''.cell? ⟨z, 1, none⟩ = some (.int .i64 rb) ∧ w''.cell? ⟨z, 2, none⟩ = some (.slice A1 n1 c1) ∧ z < w''.heap.size) ∧ Below U.heap.size U w'' ∧ Room w'' g0 gx n1 (d ++ mk3) ∧ U.heap.size ≤ gx)) := Lib.hid (fun w' h hB => (roomy_any d mk9 A1 n1 c1 w' ((Hrd2.out.below hB).more hB.size) hn1 HA1.out).mono (fun e w'' hh => by
        obtain ⟨gx, h1, h2, h3⟩ := hh
        have hs := hB.size
        have hg := HgU.out
        exact ⟨gx, h1, KeepS.out _ (hB.trans (h3.mono hs)), hB.trans (h3.mono hs), ⟨by have := h2.1; omega, h2.2⟩, Nat.le_trans hs h2.1⟩))
      have GR : Hid (∀ (w' : World), Below U.heap.size U w' → w'.ownsRow g0 29 3 (.slice Ai ni ci) (l.take k).length (rc (l.take k) (ssR gs (l.take k)))) := Lib.hid (fun w' h => (HI.out.below h).row)
      have GZ : Hid (∀ (w' : World), Below U.heap.size U w' → g0 ≤ w'.heap.size) := Lib.hid (fun w' h => Nat.le_trans HgU.out h.size)
      have hS7 := KeepS.out U (Below.refl _ _)
      have hB7 := Below.refl U.heap.size U
      clear a0 a1 a2 hzr hI0
      go_region_held3 (fun w' => Blk w' z 29 #[.int .i64 ra, .int .i64 rb, .slice A1 n1 c1] ∧ w'.cell? ⟨z, 0, none⟩ = some (.int .i64 ra) ∧ w'.cell? ⟨z, 1, none⟩ = some (.int .i64 rb) ∧ w'.cell? ⟨z, 2, none⟩ = some (.slice A1 n1 c1) ∧ z < w'.heap.size) (first | with_reducible assumption | exact KeepS.out _ (Below.drew (Below.refl _ _)) | exact KeepS.out _ (by assumption) | exact KeepA.out _ _ (by assumption) | exact KeepG.out _ _ (by assumption) (by assumption) | exact KeepS.out _ (Below.drew (by assumption)) | (go_split_ands; exact KeepS.out _ (by assumption)))
        (first | (go_at_call 26; with_reducible refine (G1.out _ (by assumption) (by first | assumption | exact Below.drew (Below.refl _ _))).mono ?_; rintro e w8 ⟨rfl, hS8, hB8⟩) | (go_at_call 25; with_reducible refine (G2.out _ (by assumption) (by assumption)).mono ?_; rintro e w9 ⟨gx, rfl, hS9, hB9, hR9, hgx9⟩) | (refine step_app_rv _ rfl (.tmp 28) (.tmp 38) rfl g0 (.slice Ai ni ci) (ssR gs (l.take k)) (l.take k) rfl (GR.out _ (by assumption)) Hss.out (ra, rb, d) (some ⟨gx, 0, none⟩, n1, n1 + 3) 1 rfl Hlen.out (GZ.out _ (by assumption)) ?_; intro v1 w1 g1 g2 g3; have hS1 := KeepG.out _ _ hS9 g3))
      have hsn := InV.snoc (HI.out.below hB9) gx (ra, rb, d) (Hdl.out ▸ hR9) (fun g' hg' => by have := ((HI.out.lt) g' hg').2; omega) (by rw [Hdl.out] at g1; exact g1) g3
      obtain ⟨A5, c5, e5⟩ := hsn.form
      have hl5 : (l.take k ++ [(ra, rb, d)]).length = k + 1 := by rw [List.length_append, Hlk.out]; rfl
      rw [hl5] at e5
      subst e5
      have hb5 := Hb.out.trans ((hB9.mono HgU.out).trans g2)
      go_wp2_with fail
      go_roundw
      case rel => exact ⟨k + 1, A5, k + 1, c5, gs ++ [gx], by omega, by go_num, rfl, Lib.hid rfl, Lib.hid (by rw [Htk.out]; exact hsn), Lib.hid hb5⟩
      case measure => simp [intOf]; omega
    · obtain rfl : k = n := by omega
      obtain rfl : ni = k := hni.out
      have hI := hI.out
      rw [List.take_of_length_le (by have := Hnl.out; omega)] at hI
      have hgw : g0 ≤ wr.heap.size := by have := hbw.out.size; have := HgW.out; omega
      obtain ⟨E, hE⟩ : ∃ E, txE base l = E := ⟨_, rfl⟩
      have hc1 := build_or base hbs l Ai ni ci wr (hI.rd HL.out) E hE
      have Hc1 := Lib.hid hc1
      have HI := Lib.hid hI
      have hb := hbw.out
      have Hgs := Lib.hid hI.lt
      have HE := Lib.hid hE
      clear hc1 hI hbw hni hE
      go_wp2_with fail
      refine Hc1.out.mono ?_
      rintro e w2 ⟨At, mt, ct, rs, uss, rfl, hm0, hot, hq⟩
      replace HI := Lib.hid (HI.out.below hq)
      replace hb := hb.trans (hq.mono hgw)
      have hs2 := hq.size
      have hgs2 : ∀ g ∈ gs, g0 ≤ g ∧ g < w2.heap.size := fun g hg => by have := Hgs.out g hg; omega
      obtain ⟨Z, hZ⟩ : ∃ Z, wr.heap.size = Z := ⟨_, rfl⟩
      rw [hZ] at hot hs2
      have HZ0 : Hid (g0 ≤ Z) := Lib.hid (by rw [← hZ]; exact hgw)
      have HZ : Hid (∀ g ∈ gs, g0 ≤ g ∧ g < Z) := Lib.hid (by rw [← hZ]; exact Hgs.out)
      have hc2 := build_or base hbs l A ni c w2 ((HL.out.rd.below (hb.mono (Nat.le_refl _))).more (by omega)) E HE.out
      have Hc2 := Lib.hid hc2
      have Hot := Lib.hid hot
      have Hm0 := Lib.hid hm0
      clear hc2 hot hq Hc1 hm0 hgs2 Hgs
      go_wp2_with fail
      refine Hc2.out.mono ?_
      rintro e w3 ⟨Au, mu, cu, rs', uss', rfl, hm0', hou, hq⟩
      replace HI := Lib.hid (HI.out.below hq)
      have hgw2 : g0 ≤ w2.heap.size := by omega
      replace hb := hb.trans (hq.mono hgw2)
      have Hmu := Lib.hid hm0'
      have HT : Hid (E = 0 → mt = (tiersL l).length ∧ mu = (tiersL l).length ∧ OwnTier w3 Z (.slice At mt ct) rs uss (tiersL l) ∧ Inc uss.flatten ∧ OwnTier w3 w2.heap.size (.slice Au mu cu) rs' uss' (tiersL l)) := Lib.hid fun he => by
        obtain ⟨a1, a2, a3⟩ := Hot.out he
        obtain ⟨b1, b2, b3⟩ := hou he
        exact ⟨a1, b1, a2.step hq, a3, b2⟩
      have HTu : Hid (∀ u ∈ uss.flatten, ∀ q, u.ownBlock = some q → E = 0 → q < w2.heap.size) := Lib.hid fun u hu q hqq he => ((Hot.out he).2.1.lt u hu q hqq).2
      obtain ⟨Z2, hZ2⟩ : ∃ Z2, w2.heap.size = Z2 := ⟨_, rfl⟩
      rw [hZ2] at HT HTu hs2
      have hZZ : Z ≤ Z2 := hs2
      have Hb := Lib.hid hb
      have HIn := Lib.hid HI.out.len
      clear hou hm0' hq Hc2 Hot hb hgw hgw2 hs2 hZ hZ2
      obtain ⟨W3, hW3⟩ : ∃ W3, W3 = w3 := ⟨_, rfl⟩
      go_upto_region 10 with (fail)
      go_loopw [16, 17, 55] (fun q1 q2 iv wr => ∃ (k : Nat), k ≤ ni ∧ iv = .int .i64 k ∧ Hid (InV wr g0 (.slice Ai ni ci) gs l k) ∧ Hid (E = 0 → mt = (tiersL l).length ∧ mu = (tiersL l).length ∧ OwnTier wr Z (.slice At mt ct) rs uss (tiersL l) ∧ Inc uss.flatten ∧ OwnTier wr Z2 (.slice Au mu cu) rs' uss' (tiersL l)) ∧ Hid (Below g0 w wr)) (fun _ _ iv _ => ni - (intOf iv).toNat)
      case atStart => exact ⟨0, by omega, rfl, HI, HT, Hb⟩
      case round =>
        obtain ⟨k, hk, rfl, hI, hT, hbw⟩ := hrel
        by_cases hlt : k < ni
        · have hkl : k < l.length := by have := Hnl.out; omega
          obtain ⟨bi, rfl, hbi, e0, e1, e2⟩ := hI.out.at_ k hkl
          obtain ⟨b, o, A1, n1, c1, rfl, hbl, d0, d1, d2, hrd, hn1, hA1⟩ := (HL.out.below hbw.out).at_ k hlt
          have hroom := hI.out.room k hkl (Nat.le_refl _)
          have hZg := HZ.out (gs[k]'(by rw [HIn.out]; exact hkl)) (List.getElem_mem _)
          obtain ⟨gk, hgk⟩ : ∃ gk, gs[k]'(by rw [HIn.out]; exact hkl) = gk := ⟨_, rfl⟩
          rw [hgk] at e2 hroom hZg
          obtain ⟨f, hf⟩ : ∃ f, l[k] = f := ⟨_, rfl⟩
          rw [hf] at e0 e1 e2 d0 d1 hrd hroom
          obtain ⟨ra, rb, d⟩ := f
          simp only at e0 e1 e2 d0 d1 d2 hrd hroom
          have hdl : n1 = d.length := hrd.1
          rw [← hdl] at e2 hroom
          have hgw : g0 ≤ wr.heap.size := by have := hbw.out.size; have := HgW.out; omega
          have hbw' : b < wr.heap.size := by omega
          have hk0 : (0 : Int) ≤ (k : Int) := by omega
          have hkn : (k : Int) < (ni : Int) := by omega
          have Hrd := Lib.hid (hrd.more hgw)
          have Hroom := Lib.hid hroom
          have Hgk := Lib.hid hgk
          have Hdl := Lib.hid hdl
          clear hrd hA1 hdl hf hroom hgk
          go_upto_region 12 with (fail)
          have hal := (Below.refl wr.heap.size wr).alloc (Nat.le_refl _) (.cells #[.int .i64 ra, .int .i64 rb, .slice (some ⟨gk, 0, none⟩) n1 (n1 + 3)] 29)
          have hI2 := hI.out.below hal
          have hb := hbw.out.trans (hal.mono hgw)
          have kz := Blk.new wr 29 #[.int .i64 ra, .int .i64 rb, .slice (some ⟨gk, 0, none⟩) n1 (n1 + 3)]
          replace d0 := (hal.cell hbw').trans d0
          replace d1 := (hal.cell hbw').trans d1
          replace d2 := (hal.cell hbw').trans d2
          have Hrd2 := Lib.hid (Hrd.out.step hal)
          have Hroom2 := Lib.hid (Hroom.out.step hal)
          have hT2 : Hid (E = 0 → mt = (tiersL l).length ∧ mu = (tiersL l).length ∧ OwnTier (wr.alloc (.cells #[.int .i64 ra, .int .i64 rb, .slice (some ⟨gk, 0, none⟩) n1 (n1 + 3)] 29)) Z (.slice At mt ct) rs uss (tiersL l) ∧ Inc uss.flatten ∧ OwnTier (wr.alloc (.cells #[.int .i64 ra, .int .i64 rb, .slice (some ⟨gk, 0, none⟩) n1 (n1 + 3)] 29)) Z2 (.slice Au mu cu) rs' uss' (tiersL l)) := Lib.hid fun he => by
            obtain ⟨a1, a2, a3, a4, a5⟩ := hT.out he
            exact ⟨a1, a2, a3.step hal, a4, a5.step hal⟩
          have hs1 : (wr.alloc (.cells #[.int .i64 ra, .int .i64 rb, .slice (some ⟨gk, 0, none⟩) n1 (n1 + 3)] 29)).heap.size = wr.heap.size + 1 := World.size_alloc _ _
          obtain ⟨U, hU⟩ : ∃ U, wr.alloc (.cells #[.int .i64 ra, .int .i64 rb, .slice (some ⟨gk, 0, none⟩) n1 (n1 + 3)] 29) = U := ⟨_, rfl⟩
          rw [hU] at hI2 hb kz Hrd2 Hroom2 hT2 d0 d1 d2 hs1 ⊢
          obtain ⟨z, hz⟩ : ∃ z, wr.heap.size = z := ⟨_, rfl⟩
          rw [hz] at kz hs1 hbw' hgw ⊢
          have HI2 := Lib.hid hI2
          have Hb2 := Lib.hid hb
          have HgU : Hid (g0 ≤ U.heap.size) := Lib.hid (by omega)
          have a0 := kz.cell 0
          have a1 := kz.cell 1
          have a2 := kz.cell 2
          have lz := kz.lt
          have lb : b < U.heap.size := by omega
          have Kz := Lib.hid kz
          clear e0 e1 e2 hbl hbi hbw' hU hz hs1 kz hI hbw Hrd Hroom hI2 hb hT hal hgw
          have KeepS := Lib.hid (fun (w' : World) (h : Below U.heap.size U w') => (⟨h, by rw [h.cell lz]; exact a0, by rw [h.cell lz]; exact a1, by rw [h.cell lz]; exact a2, by rw [h.cell lb]; exact d0, by rw [h.cell lb]; exact d1, by rw [h.cell lb]; exact d2, Nat.lt_of_lt_of_le lz h.size, Nat.lt_of_lt_of_le lb h.size⟩ : Below U.heap.size U w' ∧ w'.cell? ⟨z, 0, none⟩ = some (.int .i64 ra) ∧ w'.cell? ⟨z, 1, none⟩ = some (.int .i64 rb) ∧ w'.cell? ⟨z, 2, none⟩ = some (.slice (some ⟨gk, 0, none⟩) n1 (n1 + 3)) ∧ w'.cell? ⟨b, o + k * 3, none⟩ = some (.int .i64 ra) ∧ w'.cell? ⟨b, o + k * 3 + 1, none⟩ = some (.int .i64 rb) ∧ w'.cell? ⟨b, o + k * 3 + 2, none⟩ = some (.slice A1 n1 c1) ∧ z < w'.heap.size ∧ b < w'.heap.size))
          have G1 := Lib.hid (fun (w' : World) (h : Below U.heap.size U w' ∧ w'.cell? ⟨z, 0, none⟩ = some (.int .i64 ra) ∧ w'.cell? ⟨z, 1, none⟩ = some (.int .i64 rb) ∧ w'.cell? ⟨z, 2, none⟩ = some (.slice (some ⟨gk, 0, none⟩) n1 (n1 + 3)) ∧ w'.cell? ⟨b, o + k * 3, none⟩ = some (.int .i64 ra) ∧ w'.cell? ⟨b, o + k * 3 + 1, none⟩ = some (.int .i64 rb) ∧ w'.cell? ⟨b, o + k * 3 + 2, none⟩ = some (.slice A1 n1 c1) ∧ z < w'.heap.size ∧ b < w'.heap.size) => (samerev_true ra rb d (some ⟨gk, 0, none⟩) A1 n1 n1 (n1 + 3) c1 w' ((Hroom2.out.step h.1).rd Hrd2.out hn1) ((Hrd2.out.below h.1).more h.1.size)).mono (R' := fun e w'' => e = .returned (.bool true) ∧ (Below U.heap.size U w'' ∧ w''.cell? ⟨z, 0, none⟩ = some (.int .i64 ra) ∧ w''.cell? ⟨z, 1, none⟩ = some (.int .i64 rb) ∧ w''.cell? ⟨z, 2, none⟩ = some (.slice (some ⟨gk, 0, none⟩) n1 (n1 + 3)) ∧ w''.cell? ⟨b, o + k * 3, none⟩ = some (.int .i64 ra) ∧ w''.cell? ⟨b, o + k * 3 + 1, none⟩ = some (.int .i64 rb) ∧ w''.cell? ⟨b, o + k * 3 + 2, none⟩ = some (.slice A1 n1 c1) ∧ z < w''.heap.size ∧ b < w''.heap.size)) (fun e w'' hh => ⟨hh.1, KeepS.out _ (h.1.trans (hh.2.mono h.1.size))⟩))
          have G2 := Lib.hid (fun (w' : World) (h : Below U.heap.size U w' ∧ w'.cell? ⟨z, 0, none⟩ = some (.int .i64 ra) ∧ w'.cell? ⟨z, 1, none⟩ = some (.int .i64 rb) ∧ w'.cell? ⟨z, 2, none⟩ = some (.slice (some ⟨gk, 0, none⟩) n1 (n1 + 3)) ∧ w'.cell? ⟨b, o + k * 3, none⟩ = some (.int .i64 ra) ∧ w'.cell? ⟨b, o + k * 3 + 1, none⟩ = some (.int .i64 rb) ∧ w'.cell? ⟨b, o + k * 3 + 2, none⟩ = some (.slice A1 n1 c1) ∧ z < w'.heap.size ∧ b < w'.heap.size) => (filled_any d gk n1 _ w' (Hroom2.out.step h.1) Hdl.out.symm hn1).mono (R' := fun e w'' => e = .returned (.bool true) ∧ (Below U.heap.size U w'' ∧ w''.cell? ⟨z, 0, none⟩ = some (.int .i64 ra) ∧ w''.cell? ⟨z, 1, none⟩ = some (.int .i64 rb) ∧ w''.cell? ⟨z, 2, none⟩ = some (.slice (some ⟨gk, 0, none⟩) n1 (n1 + 3)) ∧ w''.cell? ⟨b, o + k * 3, none⟩ = some (.int .i64 ra) ∧ w''.cell? ⟨b, o + k * 3 + 1, none⟩ = some (.int .i64 rb) ∧ w''.cell? ⟨b, o + k * 3 + 2, none⟩ = some (.slice A1 n1 c1) ∧ z < w''.heap.size ∧ b < w''.heap.size)) (fun e w'' hh => ⟨hh.1, KeepS.out _ (h.1.trans (hh.2.mono h.1.size))⟩))
          have hS7 := KeepS.out U (Below.refl _ _)
          clear a0 a1 a2 d0 d1 d2 lz lb
          go_region_held3 (fun w' => Below U.heap.size U w' ∧ w'.cell? ⟨z, 0, none⟩ = some (.int .i64 ra) ∧ w'.cell? ⟨z, 1, none⟩ = some (.int .i64 rb) ∧ w'.cell? ⟨z, 2, none⟩ = some (.slice (some ⟨gk, 0, none⟩) n1 (n1 + 3)) ∧ w'.cell? ⟨b, o + k * 3, none⟩ = some (.int .i64 ra) ∧ w'.cell? ⟨b, o + k * 3 + 1, none⟩ = some (.int .i64 rb) ∧ w'.cell? ⟨b, o + k * 3 + 2, none⟩ = some (.slice A1 n1 c1) ∧ z < w'.heap.size ∧ b < w'.heap.size) (first | with_reducible assumption | exact KeepS.out _ (Below.drew (Below.refl _ _)) | exact KeepS.out _ (by assumption) | exact KeepS.out _ (Below.drew (by assumption)) | (go_split_ands; exact KeepS.out _ (by assumption)))
            (first | (go_at_call 27; with_reducible refine (G1.out _ (by assumption)).mono ?_; rintro e w8 ⟨rfl, hS8⟩) | (go_at_call 28; with_reducible refine (G2.out _ (by assumption)).mono ?_; rintro e w9 ⟨rfl, hS9⟩))
          have hS9' : Below U.heap.size U w9 ∧ w9.cell? ⟨z, 0, none⟩ = some (.int .i64 ra) ∧ w9.cell? ⟨z, 1, none⟩ = some (.int .i64 rb) ∧ w9.cell? ⟨z, 2, none⟩ = some (.slice (some ⟨gk, 0, none⟩) n1 (n1 + 3)) ∧ w9.cell? ⟨b, o + k * 3, none⟩ = some (.int .i64 ra) ∧ w9.cell? ⟨b, o + k * 3 + 1, none⟩ = some (.int .i64 rb) ∧ w9.cell? ⟨b, o + k * 3 + 2, none⟩ = some (.slice A1 n1 c1) ∧ z < w9.heap.size ∧ b < w9.heap.size := by assumption
          obtain ⟨hU9, -, -, a2, -, -, -, lz9, -⟩ := hS9'
          have hI9 := HI2.out.below hU9
          have hroom9 := Hroom2.out.step hU9
          have hb9 := Hb2.out.trans (hU9.mono HgU.out)
          have hT9 : Hid (E = 0 → mt = (tiersL l).length ∧ mu = (tiersL l).length ∧ OwnTier w9 Z (.slice At mt ct) rs uss (tiersL l) ∧ Inc uss.flatten ∧ OwnTier w9 Z2 (.slice Au mu cu) rs' uss' (tiersL l)) := Lib.hid fun he => by
            obtain ⟨a1, a2, a3, a4, a5⟩ := hT2.out he
            exact ⟨a1, a2, a3.step hU9, a4, a5.step hU9⟩
          have hg9 : g0 ≤ w9.heap.size := by have := HgU.out; have := hU9.size; omega
          have Hspoil := Lib.hid (spoil_room (7, 0, ⟨#[]⟩) gk n1 _ _ w9 hroom9 hn1)
          have HI9 := Lib.hid hI9
          have Hb9 := Lib.hid hb9
          clear KeepS G1 G2 hS7 hS8 hS9 hI9 hroom9 hb9 hU9
          go_wp2_with fail
          refine Hspoil.out.mono ?_
          rintro e w10 ⟨rfl, ho10⟩
          have ho10' : Only w9 w10 (fun q => q = gs[k]'(by rw [HIn.out]; exact hkl)) := by rw [Hgk.out]; exact ho10
          have hI10 := InV.spoil k hkl HI9.out ho10'
          have hT10 : Hid (E = 0 → mt = (tiersL l).length ∧ mu = (tiersL l).length ∧ OwnTier w10 Z (.slice At mt ct) rs uss (tiersL l) ∧ Inc uss.flatten ∧ OwnTier w10 Z2 (.slice Au mu cu) rs' uss' (tiersL l)) := Lib.hid fun he => by
            obtain ⟨a1, a2, a3, a4, a5⟩ := hT9.out he
            exact ⟨a1, a2, a3.only ho10 (fun q hq => by have hq : q = gk := hq; omega), a4, a5.only ho10 (fun q hq => by have hq : q = gk := hq; omega)⟩
          have hb10 := Hb9.out.trans (ho10.below hg9 (fun q hq => by have hq : q = gk := hq; omega))
          clear ho10 ho10' Hspoil
          go_wp2_with fail
          go_roundw
          case rel => exact ⟨k + 1, by omega, by go_num, Lib.hid hI10, hT10, Lib.hid hb10⟩
          case measure => simp [intOf]; omega
        · obtain rfl : k = ni := by omega
          have hb := hbw.out
          have hgw : g0 ≤ wr.heap.size := by have := hb.size; have := HgW.out; omega
          obtain ⟨W5, rfl⟩ : ∃ W5, W5 = wr := ⟨_, rfl⟩
          by_cases hE0 : E = 0
          · subst hE0
            obtain ⟨m1, m2, hot, hin, hou⟩ := hT.out rfl
            obtain ⟨-, hl64, -⟩ := txE_parts HE.out
            by_cases hmt : mt = 0
            · have hmt0 : ((mt : Int) == 0) = true := by simp [hmt]
              have hmtz := Lib.hid hmt
              subst hmt
              clear hot hin hou hI hT m1 hmt0
              go_wp2_with fail
              refine (first_any ⟨#[97]⟩ (by decide) W5).mono ?_
              rintro e x1 ⟨Af, rfl, hrf, hq⟩
              replace hb := hb.trans (hq.mono hgw)
              have hg1 : g0 ≤ x1.heap.size := by have := hq.size; omega
              have Hf := Lib.hid hrf
              clear hrf hq
              have hal := (Below.refl x1.heap.size x1).alloc (Nat.le_refl _) (.cells #[.int .i64 1, .int .i64 1, .slice Af 1 1] 29)
              have hc := build_rd ⟨#[]⟩ [(1, 1, [(2, 0, ⟨#[97]⟩)])] (some ⟨x1.heap.size, 0, none⟩) 1 1 (x1.alloc (.cells #[.int .i64 1, .int .i64 1, .slice Af 1 1] 29)) (RdR.built1 x1 1 1 Af 1 1 [(2, 0, ⟨#[97]⟩)] Hf.out) (by decide) 1 (by decide)
              have Hc := Lib.hid hc
              clear hc
              go_wp2_with fail
              refine Hc.out.mono ?_
              rintro e x2 ⟨A2, c2, rs2, us2, rfl, -, -, hq⟩
              have hb2 := hb.trans ((hal.trans (hq.mono hal.size)).mono hg1)
              clear hq Hc
              go_wp2_with fail
              go_ret
              exact ⟨rfl, HgW.out ▸ hb2⟩
            · have hmt0 : ((mt : Int) == 0) = false := by simp; exact hmt
              have hmu : mu = mt := by omega
              subst hmu
              have hpos : ∀ x (hx : x < (tiersL l).length), 0 < (tiersL l)[x].length := fun x hx => (tiersL_at hl64 x hx).2.1
              have hl7 := (tiersL_len hl64).2
              have hlsz : ∀ x (hx : x < (tiersL l).length), (tiersL l)[x].length ≤ 64 := fun x hx => by
                rw [(tiersL_at hl64 x hx).1]
                exact Nat.le_trans (Nat.div_le_self _ _) hl64
              have hst := sametiers_true (tiersL l) At Au mu ct cu W5 m1 (by omega) (fun x hx => by have := hlsz x hx; omega) (hot.rdT hpos) (hou.rdT hpos)
              have Hst := Lib.hid hst
              have Hot := Lib.hid hot
              have Hou := Lib.hid hou
              have Hin := Lib.hid hin
              have Hpos := Lib.hid hpos
              have Hlsz := Lib.hid hlsz
              have Hm1 := Lib.hid m1
              clear hst hot hou hin hI hT m1 m2 hpos hlsz hmt
              go_wp2_with fail
              refine Hst.out.mono ?_
              rintro e x1 ⟨rfl, hq⟩
              replace hb := hb.trans (hq.mono hgw)
              replace Hot := Lib.hid (Hot.out.step hq)
              replace Hou := Lib.hid (Hou.out.step hq)
              have hg1 : g0 ≤ x1.heap.size := by have := hq.size; omega
              clear hq hgw Hst
              have hmpos : 0 < mu := by rcases Nat.eq_zero_or_pos mu with h | h; simp [h] at hmt0; exact h
              have hwi := fun w => within_any i0 mu w hmpos (by have := Hm1.out; omega)
              have hwl := wi_lt i0 mu hmpos
              obtain ⟨i, hi⟩ : ∃ i, wi i0 mu = i := ⟨_, rfl⟩
              rw [hi] at hwi hwl
              have Hwi := Lib.hid hwi
              clear hwi hi
              go_wp2_with fail
              refine (Hwi.out x1).mono ?_
              rintro e x2 ⟨rfl, rfl⟩
              have hil : i < (tiersL l).length := by have := Hm1.out; omega
              have hrT := Hot.out.rdT Hpos.out
              obtain ⟨gt, gi, ci', rfl, hgt, q1, qc, hgi, q2⟩ := hrT i hil
              obtain ⟨ni', hni'⟩ : ∃ ni', (tiersL l)[i].length = ni' := ⟨_, rfl⟩
              have hnpos : 0 < ni' := by rw [← hni']; exact Hpos.out i hil
              have hn64 : ni' ≤ 64 := by rw [← hni']; exact Hlsz.out i hil
              rw [hni'] at q1 qc
              have hwk := fun w => within_any k0 ni' w hnpos (by omega)
              have hwkl := wi_lt k0 ni' hnpos
              obtain ⟨k', hk'⟩ : ∃ k', wi k0 ni' = k' := ⟨_, rfl⟩
              rw [hk'] at hwk hwkl
              have Hwk := Lib.hid hwk
              have hi0 : (0 : Int) ≤ (i : Int) := by omega
              have him : (i : Int) < (mu : Int) := by omega
              have hkl' : k' < (tiersL l)[i].length := by rw [hni']; exact hwkl
              obtain ⟨Ad, nd, cd, q3, q4⟩ := q2 k' hkl'
              -- the delta that is spoilt
              have her : rs[i]? = some (rs[i]'(by rw [Hot.out.len1]; exact hil)) := List.getElem?_eq_getElem _
              have heu : uss[i]? = some (uss[i]'(by rw [Hot.out.len2]; exact hil)) := List.getElem?_eq_getElem _
              have hrow := Hot.out.at_ i _ _ _ her heu (List.getElem?_eq_getElem hil)
              have heq : uss[i]'(by rw [Hot.out.len2]; exact hil) = uss[i]'(by rw [Hot.out.len2]; exact hil) := rfl
              obtain ⟨us, hus⟩ : ∃ us, uss[i]'(by rw [Hot.out.len2]; exact hil) = us := ⟨_, rfl⟩
              rw [hus] at heu hrow
              clear heq
              have Hmine : Hid (∃ u, us[k']? = some u ∧ u = .slice Ad nd cd ∧ Mine x1 Z u (tiersL l)[i][k'] ∧ u ∈ uss.flatten) := Lib.hid (by
                have hrl : (Value.slice (some ⟨gt, 0, none⟩) mu ct) = .slice (some ⟨gt, 0, none⟩) rs.length ct := by rw [Hot.out.len1, ← Hm1.out]
                have hown := Hot.out.own
                rw [hrl] at hown
                have hcx := World.ownsRow.cellAt hown i (by rw [Hot.out.len1]; omega)
                rw [her, q1] at hcx
                injection hcx with hcx
                rw [← hcx] at hrow
                obtain ⟨A3, n3, c3, y1, y2, y3, y4⟩ := hrow.at_ k' hkl'
                rw [q3] at y2
                injection y2 with y2
                exact ⟨_, y1, y2.symm, y4, List.mem_flatten.2 ⟨us, List.mem_of_getElem? heu, List.mem_of_getElem? y1⟩⟩)
              have Heu := Lib.hid heu
              clear hrow her heu hus q4 q2 hrT hk'
              go_wp2_with fail
              refine (Hwk.out x1).mono ?_
              rintro e x3 ⟨rfl, rfl⟩
              obtain ⟨u, hu1, hu2, hu3, hu4⟩ := Hmine.out
              have hk0' : (0 : Int) ≤ (k' : Int) := by omega
              have hkn' : (k' : Int) < (ni' : Int) := by omega
              have hsp := spoil_own (6, 0, ⟨#[]⟩) u _ Z x1 hu3.own
              rw [hu2] at hsp
              have Hsp := Lib.hid hsp
              have hub := hu3.lt
              have hub2 := HTu.out u hu4
              have Hu := Lib.hid (And.intro hu1 (And.intro hu2 (And.intro hub hub2)))
              clear hsp hu1 hu2 hu3 hu4 hub hub2 Hmine
              go_wp2_with fail
              refine Hsp.out.mono ?_
              rintro e x4 ⟨rfl, ho⟩
              obtain ⟨hu1, hu2, hub, hub2⟩ := Hu.out
              rw [← hu2] at ho
              have hTs := Hot.out.spoilt Hpos.out Hin.out i k' us u Heu.out hu1 ho
              have hUs := (Hou.out.only ho (fun q hq => hub2 q hq trivial)).rdT Hpos.out
              have hb4 := hb.trans (ho.below hg1 (fun q hq => by have := (hub q hq).1; have hZ0 := HZ0.out; omega))
              have HTs := Lib.hid hTs
              have HUs := Lib.hid hUs
              have Hb4 := Lib.hid hb4
              clear hTs hUs hb4 hb ho hu1 hu2 hub hub2 Hu Hsp Hwk Hwi q1 q3 hgt hgi Hot Hou
              go_upto_region 25 with (fail)
              go_loopw [20, 21, 129] (fun q1 q2 iv wr => ∃ (a : Nat), a ≤ mu ∧ iv = .int .i64 a ∧ Hid (TierRd wr (some ⟨gt, 0, none⟩) (tiersL l) (fun x y => ¬ (x = i ∧ y = k'))) ∧ Hid (TierRd wr Au (tiersL l) (fun _ _ => True)) ∧ Hid (Below g0 w wr)) (fun _ _ iv _ => mu - (intOf iv).toNat)
              case atStart => exact ⟨0, by omega, rfl, HTs, HUs, Hb4⟩
              case round =>
                obtain ⟨a, ha, rfl, hTs, hUs, hbw⟩ := hrel
                by_cases hlt : a < mu
                · have hal : a < (tiersL l).length := by have := Hm1.out; omega
                  obtain ⟨gt', ga, ca, rfl', hgt, q1, qc, qr⟩ := hTs.out a hal
                  obtain rfl : gt' = gt := by injection rfl' with rfl'; injection rfl' with rfl'; exact rfl'.symm
                  obtain ⟨na, hna⟩ : ∃ na, (tiersL l)[a].length = na := ⟨_, rfl⟩
                  have hna64 : na ≤ 64 := by rw [← hna]; exact Hlsz.out a hal
                  rw [hna] at q1
                  have ha0 : (0 : Int) ≤ (a : Int) := by omega
                  have ham : (a : Int) < (mu : Int) := by omega
                  have Hna := Lib.hid hna
                  clear qc qr rfl' hna
                  obtain ⟨W6, rfl⟩ : ∃ W6, W6 = wr := ⟨_, rfl⟩
                  go_upto_region 28 with (fail)
                  clear q1 hgt
                  go_loopw [21, 137] (fun q2 iv wr => ∃ (b : Nat), b ≤ na ∧ iv = .int .i64 b ∧ Hid (TierRd wr (some ⟨gt', 0, none⟩) (tiersL l) (fun x y => ¬ (x = i ∧ y = k'))) ∧ Hid (TierRd wr Au (tiersL l) (fun _ _ => True)) ∧ Hid (Below g0 w wr)) (fun _ iv _ => na - (intOf iv).toNat)
                  case atStart => exact ⟨0, by omega, rfl, hTs, hUs, hbw⟩
                  case round =>
                    obtain ⟨b', hb', rfl, hTs, hUs, hbw⟩ := hrel
                    by_cases hlb : b' < na
                    · have hbl : b' < (tiersL l)[a].length := by rw [Hna.out]; exact hlb
                      obtain ⟨gt2, ga, ca, rfl', hgt, q1, qc, hga, q2⟩ := hTs.out a hal
                      obtain rfl : gt2 = gt' := by injection rfl' with rfl'; injection rfl' with rfl'; exact rfl'.symm
                      obtain ⟨gu, gb, cb, rfl, hgu, r1_, rc', hgb, r2⟩ := hUs.out a hal
                      obtain ⟨A1, n1, c1, q3, q4⟩ := q2 b' hbl
                      obtain ⟨A2, n2, c2, r3, r4⟩ := r2 b' hbl
                      rw [Hna.out] at q1 r1_
                      have hb0 : (0 : Int) ≤ (b' : Int) := by omega
                      have hbn : (b' : Int) < (na : Int) := by omega
                      have Hq4 := Lib.hid q4
                      have Hr4 := Lib.hid (r4 trivial)
                      obtain ⟨W7, rfl⟩ : ∃ W7, W7 = wr := ⟨_, rfl⟩
                      have hb := hbw.out
                      have hgw7 : g0 ≤ W7.heap.size := by have := hb.size; have := HgW.out; omega
                      clear q4 r4 q2 r2 qc rc' rfl' hbw
                      have KeepS := Lib.hid (fun (w' : World) (h : Below W7.heap.size W7 w') => (⟨h, by rw [h.cell hgt]; exact q1, by rw [h.cell hga]; exact q3, by rw [h.cell hgu]; exact r1_, by rw [h.cell hgb]; exact r3, Nat.lt_of_lt_of_le hgt h.size, Nat.lt_of_lt_of_le hga h.size, Nat.lt_of_lt_of_le hgu h.size, Nat.lt_of_lt_of_le hgb h.size⟩ : Below W7.heap.size W7 w' ∧ w'.cell? ⟨gt2, a, none⟩ = some (.slice (some ⟨ga, 0, none⟩) na ca) ∧ w'.cell? ⟨ga, b', none⟩ = some (.slice A1 n1 c1) ∧ w'.cell? ⟨gu, a, none⟩ = some (.slice (some ⟨gb, 0, none⟩) na cb) ∧ w'.cell? ⟨gb, b', none⟩ = some (.slice A2 n2 c2) ∧ gt2 < w'.heap.size ∧ ga < w'.heap.size ∧ gu < w'.heap.size ∧ gb < w'.heap.size))
                      have G1 : Hid (¬ (a = i ∧ b' = k') → ∀ (w' : World), Below W7.heap.size W7 w' ∧ w'.cell? ⟨gt2, a, none⟩ = some (.slice (some ⟨ga, 0, none⟩) na ca) ∧ w'.cell? ⟨ga, b', none⟩ = some (.slice A1 n1 c1) ∧ w'.cell? ⟨gu, a, none⟩ = some (.slice (some ⟨gb, 0, none⟩) na cb) ∧ w'.cell? ⟨gb, b', none⟩ = some (.slice A2 n2 c2) ∧ gt2 < w'.heap.size ∧ ga < w'.heap.size ∧ gu < w'.heap.size ∧ gb < w'.heap.size → Calls Try.prog 18 #[.slice A1 n1 c1, .slice A2 n2 c2] w' (fun e w'' => e = .returned (.bool true) ∧ (Below W7.heap.size W7 w'' ∧ w''.cell? ⟨gt2, a, none⟩ = some (.slice (some ⟨ga, 0, none⟩) na ca) ∧ w''.cell? ⟨ga, b', none⟩ = some (.slice A1 n1 c1) ∧ w''.cell? ⟨gu, a, none⟩ = some (.slice (some ⟨gb, 0, none⟩) na cb) ∧ w''.cell? ⟨gb, b', none⟩ = some (.slice A2 n2 c2) ∧ gt2 < w''.heap.size ∧ ga < w''.heap.size ∧ gu < w''.heap.size ∧ gb < w''.heap.size))) := Lib.hid (fun hne w' h => (same_true _ _ A1 A2 n1 n2 c1 c2 _ _ w' ((Hq4.out hne).below h.1) (Hr4.out.below h.1) rfl).mono (fun e w'' hh => ⟨hh.1, KeepS.out _ (h.1.trans (hh.2.mono h.1.size))⟩))
                      have hS7 := KeepS.out W7 (Below.refl _ _)
                      clear q1 q3 r1_ r3 hgt hga hgu hgb
                      go_upto_region 30 with (fail)
                      by_cases hai : a = i
                      · have hai1 : ((a : Int) != (i : Int)) = false := by simp [hai]
                        have hai2 : (a != i) = false := by simp [hai]
                        by_cases hbk : b' = k'
                        · have hbk1 : ((b' : Int) != (k' : Int)) = false := by simp [hbk]
                          have hbk2 : (b' != k') = false := by simp [hbk]
                          clear hai hbk
                          clear hS7 KeepS G1
                          go_quiet (fail)
                          have hX := below_drewN_ (Below.refl W7.heap.size W7) nq
                          clear hai1 hai2 hbk1 hbk2
                          go_wp2_with fail
                          go_roundw
                          case rel => exact ⟨b' + 1, by omega, by go_num, Lib.hid (hTs.out.step hX), Lib.hid (hUs.out.step hX), Lib.hid (hb.trans (hX.mono hgw7))⟩
                          case measure => simp [intOf]; omega
                        · have hbk1 : ((b' : Int) != (k' : Int)) = true := by simp; omega
                          have hbk2 : (b' != k') = true := by simp; omega
                          have G := Lib.hid (G1.out (fun hh => hbk hh.2))
                          clear hai hbk
                          go_region_held3 (fun w' => Below W7.heap.size W7 w' ∧ w'.cell? ⟨gt2, a, none⟩ = some (.slice (some ⟨ga, 0, none⟩) na ca) ∧ w'.cell? ⟨ga, b', none⟩ = some (.slice A1 n1 c1) ∧ w'.cell? ⟨gu, a, none⟩ = some (.slice (some ⟨gb, 0, none⟩) na cb) ∧ w'.cell? ⟨gb, b', none⟩ = some (.slice A2 n2 c2) ∧ gt2 < w'.heap.size ∧ ga < w'.heap.size ∧ gu < w'.heap.size ∧ gb < w'.heap.size) (first | with_reducible assumption | exact KeepS.out _ (Below.drew (Below.refl _ _)) | exact KeepS.out _ (by assumption) | exact KeepS.out _ (Below.drew (by assumption)) | (go_split_ands; exact KeepS.out _ (by assumption))) ((go_at_call 18; with_reducible refine (G.out _ (by assumption)).mono ?_; rintro e w9 ⟨rfl, hS9⟩))
                          have hS9q : Below W7.heap.size W7 w9 ∧ w9.cell? ⟨gt2, a, none⟩ = some (.slice (some ⟨ga, 0, none⟩) na ca) ∧ w9.cell? ⟨ga, b', none⟩ = some (.slice A1 n1 c1) ∧ w9.cell? ⟨gu, a, none⟩ = some (.slice (some ⟨gb, 0, none⟩) na cb) ∧ w9.cell? ⟨gb, b', none⟩ = some (.slice A2 n2 c2) ∧ gt2 < w9.heap.size ∧ ga < w9.heap.size ∧ gu < w9.heap.size ∧ gb < w9.heap.size := by assumption
                          have hX := hS9q.1
                          clear hS9q hS7 KeepS G G1 hS9 hai1 hai2 hbk1 hbk2
                          go_wp2_with fail
                          go_roundw
                          case rel => exact ⟨b' + 1, by omega, by go_num, Lib.hid (hTs.out.step hX), Lib.hid (hUs.out.step hX), Lib.hid (hb.trans (hX.mono hgw7))⟩
                          case measure => simp [intOf]; omega
                      · have hai1 : ((a : Int) != (i : Int)) = true := by simp; omega
                        have hai2 : (a != i) = true := by simp; omega
                        have G := Lib.hid (G1.out (fun hh => hai hh.1))
                        refine wp_region_held (S := fun w' => Below W7.heap.size W7 w' ∧ w'.cell? ⟨gt2, a, none⟩ = some (.slice (some ⟨ga, 0, none⟩) na ca) ∧ w'.cell? ⟨ga, b', none⟩ = some (.slice A1 n1 c1) ∧ w'.cell? ⟨gu, a, none⟩ = some (.slice (some ⟨gb, 0, none⟩) na cb) ∧ w'.cell? ⟨gb, b', none⟩ = some (.slice A2 n2 c2) ∧ gt2 < w'.heap.size ∧ ga < w'.heap.size ∧ gu < w'.heap.size ∧ gb < w'.heap.size) (by kernel_rfl) ?_
                        have hS : Below W7.heap.size W7 W7.drew ∧ W7.drew.cell? ⟨gt2, a, none⟩ = some (.slice (some ⟨ga, 0, none⟩) na ca) ∧ W7.drew.cell? ⟨ga, b', none⟩ = some (.slice A1 n1 c1) ∧ W7.drew.cell? ⟨gu, a, none⟩ = some (.slice (some ⟨gb, 0, none⟩) na cb) ∧ W7.drew.cell? ⟨gb, b', none⟩ = some (.slice A2 n2 c2) ∧ gt2 < W7.drew.heap.size ∧ ga < W7.drew.heap.size ∧ gu < W7.drew.heap.size ∧ gb < W7.drew.heap.size := KeepS.out _ (Below.drew (Below.refl _ _))
                        change wpAnyH _ _ _ _ _ _ _ _ W7.drew
                        refine wpAnyH_takeD 140 (i := 0) rfl rfl (by kernel_rfl) (by kernel_rfl) (by kernel_rfl) (fun _ _ _ h => h) (v := .int .i64 a) (.inl ⟨rfl, fun w' h' => by go_simp⟩) hS ?_
                        simp only [Act.put, List.setIfInBounds_toArray, List.set_cons_zero, List.set_cons_succ]
                        refine wpAnyH_takeD 141 (i := 1) rfl rfl (by kernel_rfl) (by kernel_rfl) (by kernel_rfl) (fun _ _ _ h => h) (v := .int .i64 i) (.inl ⟨rfl, fun w' h' => by go_simp⟩) hS ?_
                        simp only [Act.put, List.setIfInBounds_toArray, List.set_cons_zero, List.set_cons_succ]
                        refine wpAnyH_takeD 142 (i := 2) rfl rfl (by kernel_rfl) (by kernel_rfl) (by kernel_rfl) (fun _ _ _ h => h) (v := .bool true) (.inl ⟨rfl, fun w' h' => by go_simp⟩) hS ?_
                        simp only [Act.put, List.setIfInBounds_toArray, List.set_cons_zero, List.set_cons_succ]
                        refine wpAnyH_takeD 143 (i := 3) rfl rfl (by kernel_rfl) (by kernel_rfl) (by kernel_rfl) (fun _ _ _ h => h) (v := .bool true) (.inl ⟨rfl, fun w' h' => by go_simp⟩) hS ?_
                        simp only [Act.put, List.setIfInBounds_toArray, List.set_cons_zero, List.set_cons_succ]
                        refine wpAnyH_takeD 144 (i := 4) rfl rfl (by kernel_rfl) (by kernel_rfl) (by kernel_rfl) (fun _ _ _ h => h) (v := undef) (.inr ⟨rfl, rfl⟩) hS ?_
                        simp only [Act.put, List.setIfInBounds_toArray, List.set_cons_zero, List.set_cons_succ]
                        refine wpAnyH_takeD 145 (i := 5) rfl rfl (by kernel_rfl) (by kernel_rfl) (by kernel_rfl) (fun _ _ _ h => h) (v := undef) (.inr ⟨rfl, rfl⟩) hS ?_
                        simp only [Act.put, List.setIfInBounds_toArray, List.set_cons_zero, List.set_cons_succ]
                        refine wpAnyH_takeD 146 (i := 6) rfl rfl (by kernel_rfl) (by kernel_rfl) (by kernel_rfl) (fun _ _ _ h => h) (v := undef) (.inr ⟨rfl, rfl⟩) hS ?_
                        simp only [Act.put, List.setIfInBounds_toArray, List.set_cons_zero, List.set_cons_succ]
                        refine wpAnyH_takeD 147 (i := 7) rfl rfl (by kernel_rfl) (by kernel_rfl) (by kernel_rfl) (fun _ _ _ h => h) (v := .bool true) (.inl ⟨rfl, fun w' h' => by go_simp⟩) hS ?_
                        simp only [Act.put, List.setIfInBounds_toArray, List.set_cons_zero, List.set_cons_succ]
                        refine wpAnyH_takeD 148 (i := 8) rfl rfl (by kernel_rfl) (by kernel_rfl) (by kernel_rfl) (fun _ _ _ h => h) (v := .bool true) (.inl ⟨rfl, fun w' h' => by go_simp⟩) hS ?_
                        simp only [Act.put, List.setIfInBounds_toArray, List.set_cons_zero, List.set_cons_succ]
                        refine wpAnyH_takeD 149 (i := 9) rfl rfl (by kernel_rfl) (by kernel_rfl) (by kernel_rfl) (fun _ _ _ h => h) (v := .slice (some ⟨gt2, 0, none⟩) mu ct) (.inl ⟨rfl, fun w' h' => by go_simp⟩) hS ?_
                        simp only [Act.put, List.setIfInBounds_toArray, List.set_cons_zero, List.set_cons_succ]
                        refine wpAnyH_takeD 150 (i := 10) rfl rfl (by kernel_rfl) (by kernel_rfl) (by kernel_rfl) (fun _ _ _ h => h) (v := .int .i64 a) (.inl ⟨rfl, fun w' h' => by go_simp⟩) hS ?_
                        simp only [Act.put, List.setIfInBounds_toArray, List.set_cons_zero, List.set_cons_succ]
                        refine wpAnyH_takeD 151 (i := 11) rfl rfl (by kernel_rfl) (by kernel_rfl) (by kernel_rfl) (fun _ _ _ h => h) (v := .pointer (some ⟨gt2, a, none⟩)) (.inl ⟨rfl, fun w' h' => by obtain ⟨-, h1, h2, h3, h4, h5, h6, h7, h8⟩ := h'; go_simp⟩) hS ?_
                        simp only [Act.put, List.setIfInBounds_toArray, List.set_cons_zero, List.set_cons_succ]
                        refine wpAnyH_takeD 152 (i := 12) rfl rfl (by kernel_rfl) (by kernel_rfl) (by kernel_rfl) (fun _ _ _ h => h) (v := .slice (some ⟨ga, 0, none⟩) na ca) (.inl ⟨rfl, fun w' h' => by obtain ⟨-, h1, h2, h3, h4, h5, h6, h7, h8⟩ := h'; go_simp⟩) hS ?_
                        simp only [Act.put, List.setIfInBounds_toArray, List.set_cons_zero, List.set_cons_succ]
                        refine wpAnyH_takeD 153 (i := 13) rfl rfl (by kernel_rfl) (by kernel_rfl) (by kernel_rfl) (fun _ _ _ h => h) (v := (.int .i64 b')) (.inl ⟨rfl, fun w' h' => by go_simp⟩) hS ?_
                        simp only [Act.put, List.setIfInBounds_toArray, List.set_cons_zero, List.set_cons_succ]
                        refine wpAnyH_takeD 154 (i := 14) rfl rfl (by kernel_rfl) (by kernel_rfl) (by kernel_rfl) (fun _ _ _ h => h) (v := (.pointer (some ⟨ga, b', none⟩))) (.inl ⟨rfl, fun w' h' => by obtain ⟨-, h1, h2, h3, h4, h5, h6, h7, h8⟩ := h'; go_simp⟩) hS ?_
                        simp only [Act.put, List.setIfInBounds_toArray, List.set_cons_zero, List.set_cons_succ]
                        refine wpAnyH_takeD 155 (i := 15) rfl rfl (by kernel_rfl) (by kernel_rfl) (by kernel_rfl) (fun _ _ _ h => h) (v := .slice A1 n1 c1) (.inl ⟨rfl, fun w' h' => by obtain ⟨-, h1, h2, h3, h4, h5, h6, h7, h8⟩ := h'; go_simp⟩) hS ?_
                        simp only [Act.put, List.setIfInBounds_toArray, List.set_cons_zero, List.set_cons_succ]
                        refine wpAnyH_takeD 156 (i := 16) rfl rfl (by kernel_rfl) (by kernel_rfl) (by kernel_rfl) (fun _ _ _ h => h) (v := .slice (some ⟨gu, 0, none⟩) mu cu) (.inl ⟨rfl, fun w' h' => by go_simp⟩) hS ?_
                        simp only [Act.put, List.setIfInBounds_toArray, List.set_cons_zero, List.set_cons_succ]
                        refine wpAnyH_takeD 157 (i := 17) rfl rfl (by kernel_rfl) (by kernel_rfl) (by kernel_rfl) (fun _ _ _ h => h) (v := .int .i64 a) (.inl ⟨rfl, fun w' h' => by go_simp⟩) hS ?_
                        simp only [Act.put, List.setIfInBounds_toArray, List.set_cons_zero, List.set_cons_succ]
                        refine wpAnyH_takeD 158 (i := 18) rfl rfl (by kernel_rfl) (by kernel_rfl) (by kernel_rfl) (fun _ _ _ h => h) (v := .pointer (some ⟨gu, a, none⟩)) (.inl ⟨rfl, fun w' h' => by obtain ⟨-, h1, h2, h3, h4, h5, h6, h7, h8⟩ := h'; go_simp⟩) hS ?_
                        simp only [Act.put, List.setIfInBounds_toArray, List.set_cons_zero, List.set_cons_succ]
                        refine wpAnyH_takeD 159 (i := 19) rfl rfl (by kernel_rfl) (by kernel_rfl) (by kernel_rfl) (fun _ _ _ h => h) (v := .slice (some ⟨gb, 0, none⟩) na cb) (.inl ⟨rfl, fun w' h' => by obtain ⟨-, h1, h2, h3, h4, h5, h6, h7, h8⟩ := h'; go_simp⟩) hS ?_
                        simp only [Act.put, List.setIfInBounds_toArray, List.set_cons_zero, List.set_cons_succ]
                        refine wpAnyH_takeD 160 (i := 20) rfl rfl (by kernel_rfl) (by kernel_rfl) (by kernel_rfl) (fun _ _ _ h => h) (v := (.int .i64 b')) (.inl ⟨rfl, fun w' h' => by go_simp⟩) hS ?_
                        simp only [Act.put, List.setIfInBounds_toArray, List.set_cons_zero, List.set_cons_succ]
                        refine wpAnyH_takeD 161 (i := 21) rfl rfl (by kernel_rfl) (by kernel_rfl) (by kernel_rfl) (fun _ _ _ h => h) (v := (.pointer (some ⟨gb, b', none⟩))) (.inl ⟨rfl, fun w' h' => by obtain ⟨-, h1, h2, h3, h4, h5, h6, h7, h8⟩ := h'; go_simp⟩) hS ?_
                        simp only [Act.put, List.setIfInBounds_toArray, List.set_cons_zero, List.set_cons_succ]
                        refine wpAnyH_takeD 162 (i := 22) rfl rfl (by kernel_rfl) (by kernel_rfl) (by kernel_rfl) (fun _ _ _ h => h) (v := .slice A2 n2 c2) (.inl ⟨rfl, fun w' h' => by obtain ⟨-, h1, h2, h3, h4, h5, h6, h7, h8⟩ := h'; go_simp⟩) hS ?_
                        simp only [Act.put, List.setIfInBounds_toArray, List.set_cons_zero, List.set_cons_succ]
                        refine wpAnyH_all (rs := [23]) (by kernel_rfl) (List.cons_ne_nil _ _) (fun i23 hi23 => ?_)
                        obtain rfl := List.mem_singleton.1 hi23
                        refine wpOp_enter 163 rfl rfl rfl 18 #[.slice A1 n1 c1, .slice A2 n2 c2] (by go_simp) (.bool true) (fun w' => Below W7.heap.size W7 w' ∧ w'.cell? ⟨gt2, a, none⟩ = some (.slice (some ⟨ga, 0, none⟩) na ca) ∧ w'.cell? ⟨ga, b', none⟩ = some (.slice A1 n1 c1) ∧ w'.cell? ⟨gu, a, none⟩ = some (.slice (some ⟨gb, 0, none⟩) na cb) ∧ w'.cell? ⟨gb, b', none⟩ = some (.slice A2 n2 c2) ∧ gt2 < w'.heap.size ∧ ga < w'.heap.size ∧ gu < w'.heap.size ∧ gb < w'.heap.size) (G.out _ hS) ?_
                        intro w9 hS9
                        simp only [Act.put, List.setIfInBounds_toArray, List.set_cons_zero, List.set_cons_succ]
                        refine ⟨hS9, ?_⟩
                        refine wpAnyH_takeD 164 (i := 24) rfl rfl (by kernel_rfl) (by kernel_rfl) (by kernel_rfl) (fun _ _ _ h => h) (v := .bool false) (.inl ⟨rfl, fun w' h' => by go_simp⟩) hS9 ?_
                        simp only [Act.put, List.setIfInBounds_toArray, List.set_cons_zero, List.set_cons_succ]
                        refine wpAnyH_takeD 165 (i := 25) rfl rfl (by kernel_rfl) (by kernel_rfl) (by kernel_rfl) (fun _ _ _ h => h) (v := .bool false) (.inl ⟨rfl, fun w' h' => by go_simp⟩) hS9 ?_
                        simp only [Act.put, List.setIfInBounds_toArray, List.set_cons_zero, List.set_cons_succ]
                        refine wpAnyH_done (by kernel_rfl) ?_ _
                        have hX := hS9.1
                        clear hS9 hS hS7 KeepS G G1 hai1 hai2
                        go_wp2_with fail
                        go_roundw
                        case rel => exact ⟨b' + 1, by omega, by go_num, Lib.hid (hTs.out.step hX), Lib.hid (hUs.out.step hX), Lib.hid (hb.trans (hX.mono hgw7))⟩
                        case measure => simp [intOf]; omega
                    · obtain rfl : b' = na := by omega
                      go_wp2_with fail
                      go_roundw
                      case rel => exact ⟨a + 1, by omega, by go_num, hTs, hUs, hbw⟩
                      case measure => simp [intOf]; omega
                · obtain rfl : a = mu := by omega
                  go_wp2_with fail
                  go_ret
                  exact ⟨rfl, HgW.out ▸ hbw.out⟩
          · have hEn : (E != 0) = true := by simpa using hE0
            obtain rfl : mt = 0 := Hm0.out hE0
            clear hI hT
            go_wp2_with fail
            refine (first_any ⟨#[97]⟩ (by decide) W5).mono ?_
            rintro e x1 ⟨Af, rfl, hrf, hq⟩
            replace hb := hb.trans (hq.mono hgw)
            have hg1 : g0 ≤ x1.heap.size := by have := hq.size; omega
            have Hf := Lib.hid hrf
            clear hrf hq
            have hal := (Below.refl x1.heap.size x1).alloc (Nat.le_refl _) (.cells #[.int .i64 1, .int .i64 1, .slice Af 1 1] 29)
            have hc := build_rd ⟨#[]⟩ [(1, 1, [(2, 0, ⟨#[97]⟩)])] (some ⟨x1.heap.size, 0, none⟩) 1 1 (x1.alloc (.cells #[.int .i64 1, .int .i64 1, .slice Af 1 1] 29)) (RdR.built1 x1 1 1 Af 1 1 [(2, 0, ⟨#[97]⟩)] Hf.out) (by decide) 1 (by decide)
            have Hc := Lib.hid hc
            clear hc
            go_wp2_with fail
            refine Hc.out.mono ?_
            rintro e x2 ⟨A2, c2, rs2, us2, rfl, -, -, hq⟩
            have hb2 := hb.trans ((hal.trans (hq.mono hal.size)).mono hg1)
            clear hq Hc
            go_wp2_with fail
            go_ret
            exact ⟨rfl, HgW.out ▸ hb2⟩
end Go.Proofs.Ytfncpcmaplhojaa
