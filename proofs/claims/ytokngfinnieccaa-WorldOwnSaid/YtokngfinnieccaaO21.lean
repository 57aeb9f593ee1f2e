/- Clients: what stays true of them (pure). The longest list that two lists have in common; plain lists, no program. What a difference costs; plain lists, no program. A world of hands: what always holds of it (pure). A world of hands: up and down keep what always holds (pure). Contract of disk.Crash. What is read of a slot whose end is gone (pure). A message that is handed in twice (pure). -/
import Derived.Test.YtokngfinnieccaaO20
import Derived.Test.YtokngfinnieccaaO10
import Derived.Test.YtokngfinnieccaaO16
import Derived.Test.YtokngfinnieccaaO17
import Derived.Test.YtokngfinnieccaaO11
import Derived.Test.YtokngfinnieccaaO2
import Derived.Test.YtokngfinnieccaaO14
import Derived.Test.YtokngfinnieccaaO15
namespace Go.Proofs.Ytokngfinnieccaa
set_option linter.unusedVariables false
set_option linter.unusedSimpArgs false
set_option maxRecDepth 100000
set_option maxHeartbeats 4000000
theorem chk_grp (us : List U) (h : Cn us) : chk (grp us) = 0 ∨ chk (grp us) = 2 := by
 have h1 := chkL_fine (grp us) 0 (by
  cases us with
  | nil => right; rfl
  | cons u r => left; rw [hk_grp]; unfold kU one; split <;> simp) (by simp) (adj_grp us h) (fine_grp us)
 unfold chk
 split
 · exact .inr rfl
 · rcases h1 with h1 | h1
   · rw [if_neg (by rw [h1]; simp)]
     split
     · exact .inr rfl
     · exact .inl rfl
   · rw [if_pos (by rw [h1]; decide)]
     exact .inr h1
theorem meet_02 {a b : List Pt} (ha : chk a = 0) (hb : chk b = 0) (hn : nI (units a) = nI (units b)) : meetE a b = 0 ∨ meetE a b = 2 := by
 have h1 : chk (meet1 a b) = 0 ∨ chk (meet1 a b) = 2 := chk_grp _ (cn_cz _)
 have h2 : chk (meet2 a b) = 0 ∨ chk (meet2 a b) = 2 := chk_grp _ (cn_cz _)
 unfold meetE
 rw [if_neg (by simpa using ha), if_neg (by simpa using hb), if_neg (by simpa using hn)]
 rcases h1 with h1 | h1
 · rw [if_neg (by rw [h1]; simp)]; exact h2
 · rw [if_pos (by rw [h1]; decide)]; exact .inr h1
structure Chain (c : Cl) (S : ByteArray) : Prop where
 idle : c.fly = false → c.text = S
 sent : c.fly = true → doE c.sent S = 0
 flies : c.fly = true → c.wait = false → c.text = doS c.sent S
 held : c.wait = true → doE c.held (doS c.sent S) = 0
 waits : c.wait = true → c.text = doS c.held (doS c.sent S)
theorem ckok_edit {c : Cl} {d : List Pt} (h : CkOk c) (he : doE d c.text = 0) (hq : c.fly = false → c.seq < 2147483647) : CkOk (edL c d) := by
 obtain ⟨k1, k2, k3, k4⟩ := do_chk he
 have k5 := do_size he
 have k6 := do_le he
 obtain ⟨a, r, sq, t, f, S, q, H⟩ := c
 obtain ⟨h1, h2, h3, h4, h5, h6, h7, h8, h9, h10, h11, h12⟩ := h
 simp only at *
 unfold edL
 cases f with
 | false =>
   have hq0 : q = false := by cases q with
    | false => rfl
    | true => exact absurd (h10 rfl) (by simp)
   subst hq0
   exact ⟨h1, h2, h3, h4, by simp only [↓reduceIte]; omega, by have := hq rfl; simp only [↓reduceIte]; omega, k6, fun x => by simp at x, h9, fun x => by simp at x, fun x => by simp at x, fun _ => ⟨k1, by simpa using k5.symm⟩⟩
 | true =>
   cases q with
   | false =>
     have h13 := h12 rfl
     simp only [Bool.false_eq_true, ↓reduceIte] at h13
     exact ⟨h1, h2, h3, h4, h5, h6, k6, h8, fun x => by simp at x, fun _ => rfl, fun _ => ⟨k1, k5.symm⟩, fun _ => ⟨h13.1, by simp only [↓reduceIte, Bool.true_eq_false]; omega⟩⟩
   | true =>
     have h13 := h12 rfl
     have h14 := h11 rfl
     simp only [↓reduceIte] at h13
     have hc := comp_zero h14.1 k1 (by omega)
     have hs := comp_sizes hc
     exact ⟨h1, h2, h3, h4, h5, h6, k6, h8, fun x => by simp at x, fun _ => rfl, fun _ => ⟨(comp_chk hc).2.2.2.2, by simp only [↓reduceIte, Bool.true_eq_false]; omega⟩, fun _ => ⟨h13.1, by simp only [↓reduceIte, Bool.true_eq_false]; omega⟩⟩
theorem chain_edit {c : Cl} {d : List Pt} {S : ByteArray} (hk : CkOk c) (h : Chain c S) (he : doE d c.text = 0) : Chain (edL c d) S := by
 obtain ⟨a, r, sq, t, f, s, q, H⟩ := c
 obtain ⟨i1, i2, i3, i4, i5⟩ := h
 simp only at *
 unfold edL
 cases f with
 | false =>
   obtain rfl := i1 rfl
   have hq0 : q = false := by cases q with
    | false => rfl
    | true => exact absurd (hk.wf rfl) (by simp)
   subst hq0
   exact ⟨fun x => by simp at x, fun _ => he, fun _ _ => rfl, fun x => by simp at x, fun x => by simp at x⟩
 | true =>
   cases q with
   | false =>
     have e := i3 rfl rfl
     subst e
     exact ⟨fun x => by simp at x, fun _ => i2 rfl, fun _ x => by simp at x, fun _ => he, fun _ => rfl⟩
   | true =>
     have e := i5 rfl
     have hH := i4 rfl
     subst e
     obtain ⟨-, j1, j2⟩ := comp_do hH he
     exact ⟨fun x => by simp at x, fun _ => i2 rfl, fun _ x => by simp at x, fun _ => j1, fun _ => j2.symm⟩
theorem ckok_own {c : Cl} (h : CkOk c) (hf : c.fly = true) (hr : c.rev < 2147483647) (hm : c.wait = true → c.seq < 2147483647) : CkOk (inO c) := by
 obtain ⟨a, r, sq, t, f, S, q, H⟩ := c
 obtain ⟨h1, h2, h3, h4, h5, h6, h7, h8, h9, h10, h11, h12⟩ := h
 simp only at *
 subst hf
 cases q with
 | false => exact ⟨h1, h2, by simp [inO]; omega, by simp [inO]; omega, by simpa [inO] using h5, by simpa [inO] using h6, h7, fun _ => h9 rfl, fun _ => rfl, fun x => by simp [inO] at x, fun x => by simp [inO] at x, fun x => by simp [inO] at x⟩
 | true =>
   have := hm rfl
   have h11 := h11 rfl
   exact ⟨h1, h2, by simp [inO]; omega, by simp [inO]; omega, by simp [inO]; omega, by simp [inO]; omega, h7, fun x => by simp [inO] at x, fun _ => rfl, fun x => by simp [inO] at x, fun x => by simp [inO] at x, fun _ => ⟨h11.1, by simpa [inO] using h11.2⟩⟩
theorem chain_own {c : Cl} {S : ByteArray} (hk : CkOk c) (h : Chain c S) (hf : c.fly = true) : Chain (inO c) (doS c.sent S) := by
 obtain ⟨a, r, sq, t, f, s, q, H⟩ := c
 obtain ⟨i1, i2, i3, i4, i5⟩ := h
 simp only at *
 subst hf
 cases q with
 | false => exact ⟨fun _ => i3 rfl rfl, fun x => by simp [inO] at x, fun x => by simp [inO] at x, fun x => by simp [inO] at x, fun x => by simp [inO] at x⟩
 | true => exact ⟨fun x => by simp [inO] at x, fun _ => i4 rfl, fun _ _ => i5 rfl, fun x => by simp [inO] at x, fun x => by simp [inO] at x⟩
theorem in_cases {c : Cl} {S : ByteArray} {d : List Pt} (hk : CkOk c) (h : Chain c S) (hd : doE d S = 0) (hr : c.rev < 2147483647) :
 inE c d = 2 ∨ (inE c d = 0 ∧ CkOk (inL c d) ∧ Chain (inL c d) (doS d S)) := by
 obtain ⟨k1, k2, k3, k4⟩ := do_chk hd
 obtain ⟨a, r, sq, t, f, s, q, H⟩ := c
 obtain ⟨i1, i2, i3, i4, i5⟩ := h
 obtain ⟨h1, h2, h3, h4, h5, h6, h7, h8, h9, h10, h11, h12⟩ := hk
 simp only at *
 cases f with
 | false =>
   obtain rfl := i1 rfl
   have hq0 : q = false := by cases q with
    | false => rfl
    | true => exact absurd (h10 rfl) (by simp)
   subst hq0
   right
   refine ⟨by simp [inE, in1E, in2E, in2D, in1D, k1, hd], ?_, ?_⟩
   · exact ⟨h1, h2, by simp only [inL]; omega, by simp only [inL]; omega, h5, h6, by simpa [inL, in2D, in1D] using do_le hd, h8, h9, h10, fun x => by simp [inL] at x, fun x => by simp [inL] at x⟩
   · exact ⟨fun _ => by simp [inL, in2D, in1D], fun x => by simp [inL] at x, fun x => by simp [inL] at x, fun x => by simp [inL] at x, fun x => by simp [inL] at x⟩
 | true =>
   have j2 := i2 rfl
   obtain ⟨s1, s2, s3, s4⟩ := do_chk j2
   rcases meet_02 k1 s1 (by omega) with e1 | e1
   · obtain ⟨m1, m2, m3⟩ := meet_do e1 hd j2
     have g1 := meet_good e1
     have z1 := meet_sizes e1
     cases q with
     | false =>
       have e := i3 rfl rfl
       subst e
       right
       refine ⟨by simp [inE, in1E, in2E, in2D, in1D, k1, e1, m2], ?_, ?_⟩
       · exact ⟨h1, h2, by simp only [inL]; omega, by simp only [inL]; omega, h5, h6, by simpa [inL, in2D, in1D] using do_le m2, fun x => by simp [inL] at x, h9, h10, fun x => by simp [inL] at x, fun _ => ⟨by simpa [inL, in1S] using g1.2, by have := do_size m2; simp [inL, in1S, in2D, in1D]; omega⟩⟩
       · exact ⟨fun x => by simp [inL] at x, fun _ => by simpa [inL, in1S] using m1, fun _ _ => by simpa [inL, in1S, in2D, in1D] using m3.symm, fun x => by simp [inL] at x, fun x => by simp [inL] at x⟩
     | true =>
       have e := i5 rfl
       have j4 := i4 rfl
       subst e
       obtain ⟨t1, t2, t3, t4⟩ := do_chk j4
       obtain ⟨u1, u2, u3, u4⟩ := do_chk m2
       rcases meet_02 u1 t1 (by omega) with e2 | e2
       · obtain ⟨n1, n2, n3⟩ := meet_do e2 m2 j4
         have g2 := meet_good e2
         have z2 := meet_sizes e2
         right
         refine ⟨by simp [inE, in1E, in2E, in2D, in1D, k1, e1, e2, n2], ?_, ?_⟩
         · exact ⟨h1, h2, by simp only [inL]; omega, by simp only [inL]; omega, h5, h6, by simpa [inL, in2D, in1D] using do_le n2, fun x => by simp [inL] at x, fun x => by simp [inL] at x, h10,
            fun _ => ⟨by simpa [inL, in2H, in1D] using g2.2, by have := do_size n2; simp [inL, in2H, in2D, in1D]; omega⟩, fun _ => ⟨by simpa [inL, in1S] using g1.2, by simp [inL, in1S, in2H, in1D]; omega⟩⟩
         · refine ⟨fun x => by simp [inL] at x, fun _ => by simpa [inL, in1S] using m1, fun _ x => by simp [inL] at x, fun _ => ?_, fun _ => ?_⟩
           · simp only [inL, in1S, in2H, in1D, ↓reduceIte]; rw [m3]; exact n1
           · simp only [inL, in1S, in2H, in2D, in1D, ↓reduceIte]; rw [m3]; exact n3.symm
       · left
         simp [inE, in1E, in2E, in1D, k1, e1, e2]
   · left
     simp [inE, in1E, k1, e1]
theorem ckok_len {c : Cl} (h : CkOk c) : c.sent.length ≤ 1600 ∧ c.held.length ≤ 1600 := by
 constructor
 · cases hf : c.fly with
   | false => rw [h.sent0 hf]; simp
   | true => exact (chk_parts (h.sk hf).1).1
 · cases hf : c.wait with
   | false => rw [h.held0 hf]; simp
   | true => exact (chk_parts (h.hk hf).1).1
theorem ckok_txt {c : Cl} (h : CkOk c) : (∀ p ∈ c.sent, p.2.2.size ≤ 140737488351232) ∧ (∀ p ∈ c.held, p.2.2.size ≤ 140737488351232) := by
 constructor
 · cases hf : c.fly with
   | false => rw [h.sent0 hf]; simp
   | true => exact text_good (h.sk hf).1
 · cases hf : c.wait with
   | false => rw [h.held0 hf]; simp
   | true => exact text_good (h.hk hf).1


end Go.Proofs.Ytokngfinnieccaa
namespace Go.Proofs.Ytokngfinnieccaa
open Go.ChangeShapes Go.WideShapes Go.RowKit
set_option linter.unusedVariables false
set_option linter.unusedSimpArgs false
set_option maxRecDepth 100000
set_option maxHeartbeats 4000000
abbrev Mg := Int × Int × Int × List Pt
structure St where
 c : Cl
 up : List Mg
 told : Nat
def cntW (i : Int) : List Rv → Nat
 | [] => 0
 | r :: l => (if r.1 = i then 1 else 0) + cntW i l
def putR : List Rv → Nat
 | [] => 0
 | r :: l => nP (units r.2.2) + putR l
theorem cntW_app (i : Int) : ∀ a b : List Rv, cntW i (a ++ b) = cntW i a + cntW i b
 | [], b => by simp [cntW]
 | r :: a, b => by rw [List.cons_append, cntW, cntW_app i a b, cntW]; omega
theorem putR_app : ∀ a b : List Rv, putR (a ++ b) = putR a + putR b
 | [], b => by simp [putR]
 | r :: a, b => by rw [List.cons_append, putR, putR_app a b, putR]; omega
theorem cntW_le (i : Int) : ∀ R : List Rv, cntW i R ≤ R.length
 | [] => Nat.le_refl _
 | r :: l => by
   have := cntW_le i l
   rw [cntW, List.length_cons]
   split <;> omega
theorem nO_le2 : ∀ us : List U, nO us ≤ nI us + nP us
 | [] => Nat.le_refl _
 | none :: us => by have := nO_le2 us; simp only [nP, nO, nI]; omega
 | some none :: us => by have := nO_le2 us; simp only [nP, nO, nI]; omega
 | some (some b) :: us => by have := nO_le2 us; simp only [nP, nO, nI]; omega
theorem mtW_app : ∀ (a b : List Rv) (o : List Pt), mtE o a = 0 → mtE o (a ++ b) = mtE (mtL o a) b ∧ mtL o (a ++ b) = mtL (mtL o a) b
 | [], b, o, _ => ⟨rfl, rfl⟩
 | r :: a, b, o, h => by
   simp only [mtE] at h
   split at h
   · rename_i h1; exact absurd h h1
   · rename_i h1
     have := mtW_app a b (meetD r.2.2 o) h
     simp only [List.cons_append, mtE, mtL]
     rw [if_neg h1]
     exact this
theorem mt_zeroW : ∀ (l : List Rv) (o : List Pt) (s : ByteArray), doE o s = 0 → txr s l = 0 → s.size + putR l + nP (units o) ≤ 500 → mtE o l = 0 ∧ doE (mtL o l) (txt s l l.length) = 0 ∧ nP (units (mtL o l)) = nP (units o)
 | [], o, s, h, _, _ => ⟨rfl, by simpa [mtL, txt] using h, rfl⟩
 | r :: l, o, s, h, h2, h3 => by
   simp only [txr] at h2
   split at h2
   · rename_i h4; exact absurd h2 h4
   · split at h2
     · rename_i h4 h5; exact absurd h2 h5
     · rename_i h4 h5
       have h5' : doE r.2.2 s = 0 := by simpa using h5
       obtain ⟨k1, k2, k3, k4⟩ := do_chk h
       obtain ⟨m1, m2, m3, m4⟩ := do_chk h5'
       have hsz := do_size h5'
       have hle := nO_le2 (units r.2.2)
       simp only [putR] at h3
       have hmt := nO_mt (units r.2.2) (units o) (by omega)
       have hz : meetE r.2.2 o = 0 := meet_zero m1 k1 (by omega) (by omega)
       obtain ⟨d1, d2, d3⟩ := meet_do hz h5' h
       have hs := meet_sizes hz
       obtain ⟨e1, e2, e3⟩ := mt_zeroW l (meetD r.2.2 o) (doS r.2.2 s) d1 h2 (by omega)
       simp only [mtE, mtL, txt, List.length_cons]
       rw [if_neg (by simpa using hz)]
       exact ⟨e1, e2, by omega⟩
theorem txt_leW : ∀ (l : List Rv) (s : ByteArray) (k : Nat), txr s l = 0 → (txt s l k).size ≤ s.size + putR (l.take k)
 | [], s, 0, _ => by simp [txt]
 | [], s, k + 1, _ => by simp [txt]
 | r :: l, s, 0, _ => by simp [txt]
 | r :: l, s, k + 1, h => by
   simp only [txr] at h
   split at h
   · rename_i h4; exact absurd h h4
   · split at h
     · rename_i h4 h5; exact absurd h h5
     · rename_i h4 h5
       have h5' : doE r.2.2 s = 0 := by simpa using h5
       obtain ⟨m1, m2, m3, m4⟩ := do_chk h5'
       have hsz := do_size h5'
       have hle := nO_le2 (units r.2.2)
       have := txt_leW l (doS r.2.2 s) k h
       simp only [txt, List.take_succ_cons, putR]
       omega
theorem nP_cmp (xs ys : List U) (h : nO xs = nI ys) : nP (cmp xs ys) ≤ nP xs + nP ys := by
 refine cmp_ind (M := fun xs ys => nP (cmp xs ys) ≤ nP xs + nP ys) (Nat.le_refl _) ?_ ?_ ?_ ?_ ?_ ?_ _ xs ys (Nat.le_refl _) h
 · intro xs ys _ ih; simp only [cmp, nP]; omega
 · intro xs b ys hx _ ih; rw [cmp_put _ _ _ hx]; simp only [nP]; omega
 all_goals intros; simp_all [cmp, rst, lead, nP]; try omega
/-! the ways a seat may stand -/
def WayA (R : List Rv) (i : Int) (x : St) : Prop := x.c.fly = false ∧ x.up = [] ∧ (∀ r ∈ R.drop x.told, r.1 ≠ i) ∧ x.c.seq = cntW i R
def WayB (R : List Rv) (i : Int) (x : St) : Prop := x.c.fly = true ∧ ∃ (b : Nat) (d : List Pt), x.up = [((b : Int), i, x.c.seq, d)] ∧ b ≤ x.told ∧ doE d (txt emp R b) = 0 ∧ mtE d ((R.take x.told).drop b) = 0 ∧ mtL d ((R.take x.told).drop b) = x.c.sent ∧ (∀ r ∈ R.drop x.told, r.1 ≠ i) ∧ x.c.seq = cntW i R + 1
def WayC (R : List Rv) (i : Int) (x : St) : Prop := x.c.fly = true ∧ x.up = [] ∧ ∃ (R1 R2 : List Rv) (D : List Pt), R.drop x.told = R1 ++ (i, x.c.seq, D) :: R2 ∧ mtE x.c.sent R1 = 0 ∧ mtL x.c.sent R1 = D ∧ (∀ r ∈ R1, r.1 ≠ i) ∧ (∀ r ∈ R2, r.1 ≠ i) ∧ x.c.seq = cntW i R
structure SI (R : List Rv) (i : Int) (x : St) : Prop where
 who : x.c.who = i
 rev : x.c.rev = (x.told : Int)
 told : x.told ≤ R.length
 ck : CkOk x.c
 ch : Chain x.c (txt emp R x.told)
 way : WayA R i x ∨ WayB R i x ∨ WayC R i x
def pendW : List Mg → Nat → Nat
 | [], _ => 0
 | _ :: _, n => n
def accB (x : St) : Nat := pendW x.up (nP (units x.c.sent)) + nP (units x.c.held)
def accN (x : St) : Nat := x.up.length + (if x.c.wait then 1 else 0)
def sayS (x : St) : St := { x with up := x.up ++ [(x.c.rev, x.c.who, x.c.seq, x.c.sent)] }
def editS (x : St) (d : List Pt) : St := if x.c.fly = false then sayS { x with c := edL x.c d } else { x with c := edL x.c d }
def ownS (x : St) : St := if x.c.wait = true then sayS ⟨inO x.c, x.up, x.told + 1⟩ else ⟨inO x.c, x.up, x.told + 1⟩
def downS (r : Rv) (x : St) : St := if r.1 = x.c.who then ownS x else ⟨inL x.c r.2.2, x.up, x.told + 1⟩
section
variable {R : List Rv} {i : Int} {x : St}
theorem SI.seq_le (h : SI R i x) : x.c.seq ≤ R.length + 1 := by
 have := cntW_le i R
 rcases h.way with ⟨_, _, _, e⟩ | ⟨_, b, d, _, _, _, _, _, _, e⟩ | ⟨_, _, R1, R2, D, _, _, _, _, _, e⟩ <;> omega
theorem SI.grow (h : SI R i x) {r : Rv} (hr : r.1 ≠ i) : SI (R ++ [r]) i x := by
 have ht := h.told
 have hd : (R ++ [r]).drop x.told = R.drop x.told ++ [r] := List.drop_append_of_le_length ht
 have htk : (R ++ [r]).take x.told = R.take x.told := List.take_append_of_le_length ht
 have hc : cntW i (R ++ [r]) = cntW i R := by rw [cntW_app]; simp [cntW, hr]
 have hno : (∀ q ∈ R.drop x.told, q.1 ≠ i) → ∀ q ∈ (R ++ [r]).drop x.told, q.1 ≠ i := by
  intro h q hq
  rw [hd] at hq
  rcases List.mem_append.1 hq with hq | hq
  · exact h q hq
  · rw [List.mem_singleton.1 hq]; exact hr
 refine ⟨h.who, h.rev, by rw [List.length_append]; omega, h.ck, by rw [txt_app _ _ _ _ ht]; exact h.ch, ?_⟩
 rcases h.way with ⟨a1, a2, a3, a4⟩ | ⟨b1, b, d, b2, b3, b4, b5, b6, b7, b8⟩ | ⟨c1, c2, R1, R2, D, c3, c4, c5, c6, c7, c8⟩
 · exact .inl ⟨a1, a2, hno a3, by rw [hc]; exact a4⟩
 · exact .inr (.inl ⟨b1, b, d, b2, b3, by rw [txt_app _ _ _ _ (by omega)]; exact b4, by rw [htk]; exact b5, by rw [htk]; exact b6, hno b7, by rw [hc]; exact b8⟩)
 · refine .inr (.inr ⟨c1, c2, R1, R2 ++ [r], D, by rw [hd, c3]; simp, c4, c5, c6, ?_, by rw [hc]; exact c8⟩)
   intro q hq
   rcases List.mem_append.1 hq with hq | hq
   · exact c7 q hq
   · rw [List.mem_singleton.1 hq]; exact hr
theorem SI.edit (h : SI R i x) (hl : R.length ≤ 64) {d : List Pt} (he : doE d x.c.text = 0) : SI R i (editS x d) ∧ accB (editS x d) ≤ accB x + nP (units d) ∧ accN (editS x d) ≤ accN x + 1 ∧ (editS x d).c.text = doS d x.c.text ∧ x.c.seq ≤ (editS x d).c.seq := by
 have hsq := h.seq_le
 have hck := ckok_edit h.ck he (fun _ => by omega)
 have hch := chain_edit h.ck h.ch he
 obtain ⟨c, up, told⟩ := x
 obtain ⟨who, rev, ht, ck, ch, way⟩ := h
 obtain ⟨a, r, sq, t, f, S, q, H⟩ := c
 simp only at who rev ht ck ch way hsq he
 cases f with
 | false =>
   have hq : q = false := by
    cases q with
    | false => rfl
    | true => exact absurd (ck.wf rfl) (by simp)
   subst hq
   have hH : H = [] := ck.held0 rfl
   subst hH
   rcases way with ⟨_, a2, a3, a4⟩ | ⟨b1, _⟩ | ⟨c1, _⟩
   case inr.inl => simp at b1
   case inr.inr => simp at c1
   simp only at a2 a3 a4
   subst a2
   subst who rev
   have hidle : t = txt emp R told := ch.idle rfl
   refine ⟨⟨rfl, rfl, ht, hck, hch, .inr (.inl ⟨rfl, told, d, ?_, Nat.le_refl _, ?_, ?_, ?_, a3, ?_⟩)⟩, ?_, ?_, ?_, ?_⟩
   · simp [editS, sayS, edL]
   · rw [← hidle]; exact he
   · rw [List.drop_eq_nil_of_le (by simp [editS, sayS]; omega)]; rfl
   · rw [List.drop_eq_nil_of_le (by simp [editS, sayS]; omega)]; simp [mtL, editS, sayS, edL]
   · simp only [editS, sayS, edL, ↓reduceIte]; omega
   · simp only [accB, editS, sayS, edL, pendW, ↓reduceIte, List.nil_append]; omega
   · simp [accN, editS, sayS, edL]
   · simp [editS, sayS, edL]
   · simp only [editS, sayS, edL, ↓reduceIte]; omega
 | true =>
   have hch2 : Chain (edL ⟨a, r, sq, t, true, S, q, H⟩ d) (txt emp R told) := hch
   refine ⟨⟨?_, ?_, ht, hck, hch, ?_⟩, ?_, ?_, ?_, ?_⟩
   · cases q <;> simpa [editS, edL] using who
   · cases q <;> simpa [editS, edL] using rev
   · rcases way with ⟨a1, _⟩ | ⟨b1, b, d', b2, b3, b4, b5, b6, b7, b8⟩ | ⟨c1, c2, R1, R2, D, c3, c4, c5, c6, c7, c8⟩
     · simp at a1
     · refine .inr (.inl ?_)
       cases q <;> exact ⟨rfl, b, d', b2, b3, b4, b5, b6, b7, b8⟩
     · refine .inr (.inr ?_)
       cases q <;> exact ⟨rfl, c2, R1, R2, D, c3, c4, c5, c6, c7, c8⟩
   · cases q with
     | false =>
       have hH : H = [] := ck.held0 rfl
       subst hH
       simp [accB, editS, edL]
     | true =>
       have h1 := ch.held rfl
       have h2 := ch.waits rfl
       simp only at h1 h2
       rw [h2] at he
       obtain ⟨k1, k2, k3⟩ := comp_do h1 he
       have hc := comp_chk k1
       have hu := comp_units k1
       have hn := nP_cmp (units H) (units d) hc.2.2.1
       simp only [accB, editS, edL, Bool.true_eq_false, ↓reduceIte]
       rw [hu, nP_cz]
       omega
   · cases q <;> simp [accN, editS, edL]
   · cases q <;> simp [editS, edL]
   · cases q <;> simp [editS, edL]
end
section
variable {R : List Rv} {i : Int} {x : St}
theorem emp_size : emp.size = 0 := rfl
theorem SI.up (h : SI R i x) (hB : x.up ≠ []) (hs : txr emp R = 0) (hb : putR R + accB x ≤ 500) :
 ∃ (b : Nat) (d : List Pt), x.up = [((b : Int), i, x.c.seq, d)] ∧ b ≤ R.length ∧ doE d (txt emp R b) = 0 ∧ mtE d (R.drop b) = 0 ∧ doE (mtL d (R.drop b)) (txt emp R R.length) = 0 ∧ nP (units (mtL d (R.drop b))) = nP (units x.c.sent) ∧ x.c.seq = cntW i R + 1 ∧ nP (units d) = nP (units x.c.sent) ∧
   ∀ D, mtL d (R.drop b) = D → SI (R ++ [(i, x.c.seq, D)]) i { x with up := [] } := by
 rcases h.way with ⟨_, a2, _⟩ | ⟨b1, b, d, b2, b3, b4, b5, b6, b7, b8⟩ | ⟨_, c2, _⟩
 case inl => exact absurd a2 hB
 case inr.inr => exact absurd c2 hB
 have ht := h.told
 have hsplit : R.drop b = (R.take x.told).drop b ++ R.drop x.told := by
  conv => lhs; rw [← List.take_append_drop x.told R]
  rw [List.drop_append_of_le_length (by rw [List.length_take]; omega)]
 have hg := mt_good _ d (do_chk b4).1 b5
 rw [b6] at hg
 have hp := putR_app (R.take b) (R.drop b)
 rw [List.take_append_drop] at hp
 have hz := txt_leW R emp b hs
 rw [emp_size] at hz
 have hacc : nP (units x.c.sent) ≤ accB x := by
  unfold accB
  rw [b2]
  simp only [pendW]
  omega
 obtain ⟨m1, m2, m3⟩ := mt_zeroW (R.drop b) d (txt emp R b) b4 (txr_drop R emp b hs) (by omega)
 rw [txt_drop, List.length_drop, show b + (R.length - b) = R.length by omega] at m2
 have hm := mtW_app ((R.take x.told).drop b) (R.drop x.told) d b5
 rw [← hsplit, b6] at hm
 refine ⟨b, d, b2, by omega, b4, m1, m2, by rw [m3]; exact hg.2.symm, b8, hg.2.symm, ?_⟩
 intro D hD
 refine ⟨h.who, h.rev, by show x.told ≤ _; rw [List.length_append]; omega, h.ck, by show Chain x.c (txt emp _ x.told); rw [txt_app _ _ _ _ ht]; exact h.ch, .inr (.inr ⟨b1, rfl, R.drop x.told, [], D, ?_, ?_, ?_, b7, by simp, ?_⟩)⟩
 · exact List.drop_append_of_le_length ht
 · show mtE x.c.sent _ = 0; rw [← hm.1]; exact m1
 · show mtL x.c.sent _ = D; rw [← hm.2]; exact hD
 · show x.c.seq = _
   rw [cntW_app, b8]
   simp [cntW]
theorem take_one (ht : x.told < R.length) : R.take (x.told + 1) = R.take x.told ++ [R[x.told]] := (List.take_append_getElem ht).symm
theorem drop_one (ht : x.told < R.length) : R.drop x.told = R[x.told] :: R.drop (x.told + 1) := (List.drop_eq_getElem_cons ht)
theorem putR_take (ht : x.told < R.length) : putR (R.take x.told) + nP (units (R[x.told]).2.2) + putR (R.drop (x.told + 1)) = putR R := by
 have hp := putR_app (R.take x.told) (R.drop x.told)
 rw [List.take_append_drop, drop_one ht] at hp
 simp only [putR] at hp
 omega
theorem SI.other (h : SI R i x) (ht : x.told < R.length) (hw : (R[x.told]).1 ≠ i) (hs : txr emp R = 0) (hl : R.length ≤ 64) (hb : putR R + accB x ≤ 500) :
 inE x.c (R[x.told]).2.2 = 0 ∧ SI R i ⟨inL x.c (R[x.told]).2.2, x.up, x.told + 1⟩ ∧ accB ⟨inL x.c (R[x.told]).2.2, x.up, x.told + 1⟩ = accB x ∧ accN ⟨inL x.c (R[x.told]).2.2, x.up, x.told + 1⟩ = accN x := by
 obtain ⟨o1, o2, o3⟩ := txr_at R emp x.told ht hs
 have hp := putR_take ht
 have hz := txt_leW R emp x.told hs
 rw [emp_size] at hz
 have hd1 := drop_one ht
 have htk := take_one ht
 obtain ⟨r, hr⟩ : ∃ r, R[x.told] = r := ⟨_, rfl⟩
 rw [hr] at hw o1 o2 o3 hp hd1 htk ⊢
 obtain ⟨S, hS⟩ : ∃ S, txt emp R x.told = S := ⟨_, rfl⟩
 rw [hS] at o2 o3 hz
 have hch := h.ch
 rw [hS] at hch
 obtain ⟨k1, k2, k3, k4⟩ := do_chk o2
 have hle := nO_le2 (units r.2.2)
 -- how much is put in all
 have hbud : x.c.fly = true → S.size + nP (units r.2.2) + nP (units x.c.sent) + nP (units x.c.held) ≤ 500 := by
  intro hf
  rcases h.way with ⟨a1, _⟩ | ⟨b1, b, d, b2, _⟩ | ⟨c1, c2, R1, R2, D, c3, c4, c5, c6, c7, c8⟩
  · rw [hf] at a1; cases a1
  · have : nP (units x.c.sent) + nP (units x.c.held) = accB x := by unfold accB; rw [b2]; rfl
    omega
  · have hh : nP (units x.c.held) = accB x := by unfold accB; rw [c2]; simp [pendW]
    rw [hd1] at c3
    cases R1 with
    | nil =>
      rw [List.nil_append] at c3
      injection c3 with c3 _
      rw [c3] at hw
      exact absurd rfl hw
    | cons q R1 =>
      rw [List.cons_append] at c3
      injection c3 with c3 c3'
      have hg := mt_good (q :: R1) x.c.sent (h.ck.sk hf).1 c4
      rw [c5] at hg
      have : putR (R.drop (x.told + 1)) = putR R1 + (nP (units D) + putR R2) := by rw [c3', putR_app, putR]
      omega
 have hin : inE x.c r.2.2 = 0 ∧ (x.c.fly = true → meetE r.2.2 x.c.sent = 0) ∧ (x.c.wait = true → meetE (meetC r.2.2 x.c.sent) x.c.held = 0) := by
  have hchk : (x.c.fly = true → meetE r.2.2 x.c.sent = 0) ∧ (x.c.wait = true → meetE (meetC r.2.2 x.c.sent) x.c.held = 0) := by
   have h1 : x.c.fly = true → meetE r.2.2 x.c.sent = 0 := by
    intro hf
    have := hbud hf
    obtain ⟨j1, j2, j3, j4⟩ := do_chk (hch.sent hf)
    have hmt := nO_mt (units r.2.2) (units x.c.sent) (by omega)
    exact meet_zero k1 j1 (by omega) (by omega)
   refine ⟨h1, ?_⟩
   intro hq
   have hf := h.ck.wf hq
   have := hbud hf
   have hm := h1 hf
   obtain ⟨j1, j2, j3, j4⟩ := do_chk (hch.sent hf)
   obtain ⟨l1, l2, l3, l4⟩ := do_chk (hch.held hq)
   have hz2 := do_size (hch.sent hf)
   have hg := meet_good hm
   have hsz := meet_sizes hm
   have hmu := meet_units hm
   have hmt := nO_mt (units r.2.2) (units x.c.sent) (by omega)
   have hmt2 := nO_mt (units (meetC r.2.2 x.c.sent)) (units x.c.held) (by omega)
   have e : nO (units (meetC r.2.2 x.c.sent)) = nO (mt (units r.2.2) (units x.c.sent)).1 := by rw [hmu.1, nO_cz]
   exact meet_zero hg.1 l1 (by omega) (by omega)
  refine ⟨?_, hchk⟩
  have hc := in_cases h.ck hch o2 (by have := h.rev; have := h.told; omega)
  rcases hc with hc | hc
  · exfalso
    unfold inE at hc
    rw [if_neg (by simpa using k1)] at hc
    have e1 : in1E x.c r.2.2 = 0 := by
     unfold in1E
     split
     · rename_i hf; exact hchk.1 hf
     · rfl
    have e2 : in2E x.c r.2.2 = 0 := by
     unfold in2E
     split
     · rename_i hq
       have hf := h.ck.wf hq
       unfold in1D
       rw [if_pos hf]
       exact hchk.2 hq
     · rfl
    rw [if_neg (by simpa using e1), if_neg (by simpa using e2)] at hc
    have hk : chk (in2D x.c r.2.2) = 0 := by
     unfold in2D in1D
     split
     · rename_i hq
       have hf := h.ck.wf hq
       rw [if_pos hf]
       exact (meet_good (hchk.2 hq)).1
     · split
       · rename_i hf; exact (meet_good (hchk.1 hf)).1
       · exact k1
    unfold doE fitsE at hc
    rw [if_neg (by simpa using hk)] at hc
    split at hc <;> cases hc
  · exact hc.1
 rcases in_cases h.ck hch o2 (by have := h.rev; have := h.told; omega) with hc | ⟨_, hck, hcn⟩
 · rw [hin.1] at hc; cases hc
 rw [← o3] at hcn
 have hs1 : x.c.fly = true → in1S x.c r.2.2 = meetD r.2.2 x.c.sent := fun hf => by unfold in1S; rw [if_pos hf]
 have hnS : nP (units (inL x.c r.2.2).sent) = nP (units x.c.sent) := by
  show nP (units (in1S x.c r.2.2)) = _
  unfold in1S
  split
  · rename_i hf; exact (meet_sizes (hin.2.1 hf)).2.2.2.2
  · rfl
 have hnH : nP (units (inL x.c r.2.2).held) = nP (units x.c.held) := by
  show nP (units (in2H x.c r.2.2)) = _
  unfold in2H in1D
  split
  · rename_i hq
    rw [if_pos (h.ck.wf hq)]
    exact (meet_sizes (hin.2.2 hq)).2.2.2.2
  · rfl
 refine ⟨hin.1, ⟨h.who, ?_, ht, hck, hcn, ?_⟩, ?_, rfl⟩
 · show x.c.rev + 1 = ((x.told + 1 : Nat) : Int)
   rw [h.rev]; omega
 · rcases h.way with ⟨a1, a2, a3, a4⟩ | ⟨b1, b, d, b2, b3, b4, b5, b6, b7, b8⟩ | ⟨c1, c2, R1, R2, D, c3, c4, c5, c6, c7, c8⟩
   · refine .inl ⟨a1, a2, fun q hq => a3 q ?_, a4⟩
     rw [hd1]; exact List.mem_cons_of_mem _ hq
   · have e : (R.take (x.told + 1)).drop b = (R.take x.told).drop b ++ [r] := by
      rw [htk, List.drop_append_of_le_length (by rw [List.length_take]; omega)]
     have hm := mtW_app ((R.take x.told).drop b) [r] d b5
     rw [← e, b6] at hm
     have hm1 := hin.2.1 b1
     refine .inr (.inl ⟨b1, b, d, b2, by show b ≤ x.told + 1; omega, b4, ?_, ?_, fun q hq => b7 q ?_, b8⟩)
     · show mtE d ((R.take (x.told + 1)).drop b) = 0
       rw [hm.1]
       simp only [mtE]
       rw [if_neg (by simpa using hm1)]
     · show mtL d ((R.take (x.told + 1)).drop b) = in1S x.c r.2.2
       rw [hm.2, hs1 b1]
       rfl
     · rw [hd1]; exact List.mem_cons_of_mem _ hq
   · rw [hd1] at c3
     cases R1 with
     | nil =>
       rw [List.nil_append] at c3
       injection c3 with c3 _
       rw [c3] at hw
       exact absurd rfl hw
     | cons q R1 =>
       rw [List.cons_append] at c3
       injection c3 with c3 c3'
       subst c3
       refine .inr (.inr ⟨c1, c2, R1, R2, D, c3', ?_, ?_, fun q hq => c6 q (List.mem_cons_of_mem _ hq), c7, c8⟩)
       · show mtE (in1S x.c r.2.2) R1 = 0
         rw [hs1 c1]
         simp only [mtE] at c4
         rw [if_neg (by simpa using hin.2.1 c1)] at c4
         exact c4
       · show mtL (in1S x.c r.2.2) R1 = D
         rw [hs1 c1]
         exact c5
 · unfold accB
   show pendW x.up _ + _ = _
   rw [hnS, hnH]
theorem SI.own (h : SI R i x) (ht : x.told < R.length) (hw : (R[x.told]).1 = i) (hs : txr emp R = 0) (hl : R.length ≤ 64) :
 x.c.fly = true ∧ R[x.told] = (i, x.c.seq, x.c.sent) ∧ x.up = [] ∧ SI R i (ownS x) ∧ accB (ownS x) = accB x ∧ accN (ownS x) = accN x := by
 have hsq := h.seq_le
 obtain ⟨o1, o2, o3⟩ := txr_at R emp x.told ht hs
 have hd1 := drop_one ht
 obtain ⟨r, hr⟩ : ∃ r, R[x.told] = r := ⟨_, rfl⟩
 rw [hr] at hw o1 o2 o3 hd1 ⊢
 rcases h.way with ⟨a1, a2, a3, a4⟩ | ⟨b1, b, d, b2, b3, b4, b5, b6, b7, b8⟩ | ⟨c1, c2, R1, R2, D, c3, c4, c5, c6, c7, c8⟩
 · exact absurd hw (a3 r (by rw [hd1]; simp))
 · exact absurd hw (b7 r (by rw [hd1]; simp))
 · have hn : R1 = [] := by
    cases R1 with
    | nil => rfl
    | cons q R1 =>
      rw [hd1, List.cons_append] at c3
      injection c3 with c3 _
      subst c3
      exact absurd hw (c6 r (by simp))
   subst hn
   rw [hd1, List.nil_append] at c3
   injection c3 with c3 c3'
   have hD : x.c.sent = D := c5
   subst hD
   rw [c3] at o2 o3
   have hck := ckok_own h.ck c1 (by have := h.rev; omega) (fun _ => by omega)
   have hcn := chain_own h.ck h.ch c1
   simp only at o3
   rw [← o3] at hcn
   have hup := c2
   obtain ⟨c, up, told⟩ := x
   simp only at *
   subst hup
   refine ⟨c1, c3, rfl, ?_, ?_, ?_⟩
   · cases hq : c.wait with
     | false =>
       have e : ownS ⟨c, [], told⟩ = ⟨inO c, [], told + 1⟩ := by unfold ownS; rw [if_neg (by simp [hq])]
       rw [e]
       refine ⟨h.who, ?_, ht, hck, hcn, .inl ⟨?_, rfl, ?_, ?_⟩⟩
       · show c.rev + 1 = _; rw [h.rev]; simp
       · show c.wait = false; exact hq
       · intro q hq'; rw [c3'] at hq'; exact c7 q hq'
       · show (if c.wait then c.seq + 1 else c.seq) = _
         rw [if_neg (by simp [hq])]; exact c8
     | true =>
       have e : ownS ⟨c, [], told⟩ = ⟨inO c, [(c.rev + 1, c.who, c.seq + 1, c.held)], told + 1⟩ := by
        unfold ownS
        rw [if_pos hq]
        simp [sayS, inO, hq]
       rw [e]
       refine ⟨h.who, ?_, ht, hck, hcn, .inr (.inl ⟨?_, told + 1, c.held, ?_, Nat.le_refl _, ?_, ?_, ?_, ?_, ?_⟩)⟩
       · show c.rev + 1 = _; rw [h.rev]; simp
       · show c.wait = true; exact hq
       · have h1 := h.rev
         have h2 := h.who
         simp only at h1 h2
         show [(c.rev + 1, c.who, c.seq + 1, c.held)] = [(((told + 1 : Nat) : Int), i, (if c.wait then c.seq + 1 else c.seq), c.held)]
         rw [h1, h2, if_pos hq]
         simp
       · have := h.ch.held hq
         rw [o3]
         exact this
       · rw [List.drop_eq_nil_of_le (by simp; omega)]; rfl
       · rw [List.drop_eq_nil_of_le (by simp; omega)]; rfl
       · intro q hq'; rw [c3'] at hq'; exact c7 q hq'
       · show (if c.wait then c.seq + 1 else c.seq) = _
         rw [if_pos hq, c8]
   · cases hq : c.wait with
     | false =>
       have hh := h.ck.held0 hq
       simp only at hh
       simp [accB, ownS, hq, inO, pendW, hh]
     | true => simp [accB, ownS, hq, inO, pendW, sayS, units, nP]
   · cases hq : c.wait <;> simp [accN, ownS, hq, inO, sayS]
end

section
variable {g b : Nat} {t : List (Nat × Nat)} {tx : ByteArray}
end
section
variable {g b : Nat} {t : List (Nat × Nat)} {tx : ByteArray}
end
section
variable {s : Sh} {m : Option Mv} {g b : Nat} {tN : List (Nat × Nat)}
end
section
variable {s : Sh} {m : Option Mv} {g b : Nat} {tN : List (Nat × Nat)}
end
/-! what is safe as a whole -/
section
variable {s : Sh} {g b : Nat} {tN : List (Nat × Nat)}
end

end Go.Proofs.Ytokngfinnieccaa
