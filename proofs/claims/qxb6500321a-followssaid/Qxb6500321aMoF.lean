/-
  The model's walk is the machine.
-/
import Derived.Test.Qxb6500321aMoE
set_option linter.unusedSimpArgs false
set_option linter.unusedVariables false
set_option maxRecDepth 100000
set_option linter.unusedSectionVars false
set_option maxHeartbeats 1000000
namespace Go.Proofs.Qxb6500321a
open Go Go.Vc
section
variable {S : SS} {f : SF} {r : List SF}
theorem openS_eq (hS : S.fs = f :: r) (i : Nat) (x : Ins) : openS i x S = if S.fs.length = 7 then none
    else if x.op = 4 then (if S.h ≤ f.fl then none else some { S with A := S.A ++ [⟨4, .c (i + 1), 0⟩], fs := ⟨i + 1, x.op, S.h - 1, arP x, S.A.length + 1, true⟩ :: S.fs, h := S.h - 1 })
    else some { S with fs := ⟨i + 1, x.op, S.h, arP x, S.A.length, false⟩ :: S.fs } := by
  unfold openS
  split
  · rename_i h; rw [hS] at h; cases h
  · rename_i f' r' h; rw [hS] at h; cases h; rfl
theorem turnS_eq (hS : S.fs = f :: r) : turnS S = if S.dead = 0 ∧ S.h ≠ f.fl + f.ar then none else if f.cn = false then none
    else some { A := turnA S f, fs := { f with cn := false } :: r, h := f.fl, dead := 0, en := S.en, el := up1 S.el f.o (turnA S f).length } := by
  unfold turnS
  split
  · rename_i h; rw [hS] at h; cases h
  · rename_i f' r' h; rw [hS] at h; cases h; rfl
theorem shutS_eq (hS : S.fs = f :: r) : shutS S = if S.dead = 0 ∧ S.h ≠ f.fl + f.ar then none else if 10 < f.fl + f.ar then none
    else some { A := if r.length = 0 then S.A ++ [⟨11, .k 0, 0⟩] else S.A, fs := r, h := f.fl + f.ar, dead := 0, en := up1 S.en f.o S.A.length, el := if f.cn = true then up1 S.el f.o S.A.length else S.el } := by
  unfold shutS
  split
  · rename_i h; rw [hS] at h; cases h
  · rename_i f' r' h; rw [hS] at h; cases h; rfl
theorem brS_none (hS : S.fs = f :: r) {x : Ins} (h : S.fs[x.x.toNat]? = none) : brS x S = none := by
  unfold brS
  split
  · rfl
  · rw [h]
theorem brS_eq (hS : S.fs = f :: r) {x : Ins} {g : SF} (h : S.fs[x.x.toNat]? = some g) : brS x S = if S.h < f.fl + (if x.op = 13 then 1 else 0) then none
    else some { S with A := S.A ++ [brC x.op g], h := S.h - (if x.op = 13 then 1 else 0), dead := if x.op = 12 then 1 else S.dead } := by
  unfold brS
  split
  · rename_i h'; rw [hS] at h'; cases h'
  · rename_i f' r' h'; rw [hS] at h'; cases h'; rw [h]
theorem tabS_eq (hS : S.fs = f :: r) (B : BD) (x : Ins) : tabS B x S = if S.h ≤ f.fl ∨ x.y < 1 ∨ (B.nt : Int) < x.y ∨ (B.nt : Int) - x.y < x.x then none
    else match rowsS S.fs B.tab x.y.toNat x.x.toNat with
      | none => none
      | some cs => some { S with A := S.A ++ (⟨14, .k x.y, 0⟩ :: cs), h := S.h - 1, dead := 1 } := by
  unfold tabS
  split
  · rename_i h; rw [hS] at h; cases h
  · rename_i f' r' h; rw [hS] at h; cases h; rfl
theorem plainS_none (hS : S.fs = f :: r) {B : BD} {x : Ins} (h : B.ef x = none) : plainS B x S = none := by
  unfold plainS
  split
  · rfl
  · rw [h]
theorem plainS_eq (hS : S.fs = f :: r) {B : BD} {x : Ins} {t g : Nat} (h : B.ef x = some (t, g)) : plainS B x S = if S.h < f.fl + t ∨ 10 + t < S.h + g then none
      else some { S with A := S.A ++ [⟨x.op, .k x.x, x.y⟩], h := S.h + g - t, dead := if x.op = 0 then 1 else S.dead } := by
  unfold plainS
  split
  · rename_i h'; rw [hS] at h'; cases h'
  · rename_i f' r' h'; rw [hS] at h'; cases h'; rw [h]
end
theorem brC_rs (Sn : SS) (op : Int) (g : SF) : rsN Sn (brC op g) = ⟨op, syX Sn (brC 0 g).s, (brC 0 g).y⟩ := by
  unfold rsN brC
  split <;> rfl
/-- What a play leaves. -/
def WQ (M : Prop) (w0 : World) (D : BD) (res : Nat) (Sn : SS) (z : Sum Nat SS) : Value → World → Prop := fun v w' =>
  match z with
  | .inl at_ => v = .tuple #[.slice none 0 0, .slice none 0 0, .int .i64 (at_ : Int), .int .i64 29] ∧ Same [] w0.heap.size w0 w'
  | .inr S => ∃ ca cl cc wa wc fa fl fc, v = .tuple #[.slice ca cl cc, .slice wa (D.n + 1) wc, .int .i64 0, .int .i64 0] ∧ MW M (rsN Sn) w0 w' S.A S.fs (wl D res) ca cl cc wa (D.n + 1) wc fa fl fc
section
variable {wd w0 : World} {L mb : Nat} {m : Nat → Value} {P : PM} {fb kf nb bc tc res al ac : Nat} {ta aa : Option Addr} {D : BD} {M : Prop} {Sn : SS}
theorem mwalk_loop (PBk : PB P) (hH : HM wd w0 L mb m P) (hb : WB P w0 fb kf nb bc ta tc D) (hres : res ≤ 1024) (hA : AD M w0 aa al D res Sn) {z : Sum Nat SS} :
    ∀ (k i : Nat) (S : SS) (w : World) (ca : Option Addr) (cl cc : Nat) (wa : Option Addr) (wc : Nat) (fa : Option Addr) (fl fc : Nat), i + k = D.n → MW M (rsN Sn) w0 w S.A S.fs (wl D res) ca cl cc wa i wc fa fl fc → PI D res i S → z = goS D k i S →
      prepm_walk.L1 (some ⟨mb, 0, none⟩) (some ⟨fb, kf * 4, none⟩) aa al ac (some ⟨nb, 0, none⟩) D.n bc ca cl cc wa i wc fa fl fc (S.h : Int) (S.dead : Int) (i : Int) (WQ M w0 D res Sn z) (fun _ _ => False) w := by
  have bo := hb.okB
  have n1 := hb.n1; have n9 := hb.n9; have nt9 := hb.nt
  have adk : ∀ w', Same [] w0.heap.size w0 w' → AD M w' aa al D res Sn := fun w' hs => hA.keep hs (fun ab hab => by
    rcases hA with ⟨_, q⟩ | ⟨_, _, ab', q, _, hc⟩
    · rw [q] at hab; cases hab
    · rw [q] at hab; cases hab; exact ⟨cell_lt (hc 0 (by omega)), by simp⟩)
  generalize hR : WQ M w0 D res Sn z = R
  intro k
  induction k with
  | zero =>
    intro i S w ca cl cc wa wc fa fl fc hk m pi ez
    refine prepm_walk.step1 _ _ _ _ _ _ _ _ _ _ _ _ _ _ _ _ _ _ _ _ _ _ _ ?_
    unfold prepm_walk.V1
    refine cond_false' (decide_eq_false (by omega)) ?_
    have ez : z = if S.fs.length = 0 then .inr S else .inl i := ez
    have fA := m.fA
    have hin : D.n = i := by omega
    refine cond_intro (fun e => ?_) (fun e => ?_)
    · have e : ¬ fl = 0 := by rintro rfl; cases e
      rw [if_neg (by omega)] at ez
      rw [← hR, ez]
      exact ⟨by rw [hin], m.sm⟩
    · have e : fl = 0 := by
        have : (fl : Int) = 0 := by simpa using e
        omega
      rw [if_pos (by omega)] at ez
      rw [← hR, ez]
      refine m.whr (by rw [m.cA]; exact (wl_of pi.t).symm) (by omega) fun a' c' w2 m2 => ?_
      exact ⟨ca, cl, cc, a', c', fa, fl, fc, by rw [hin], by rw [hin]; exact m2⟩
  | succ k ih =>
    intro i S w ca cl cc wa wc fa fl fc hk m pi ez
    have hi : i < D.n := by omega
    obtain ⟨g, r, hfs⟩ : ∃ g r, S.fs = g :: r := by
      rcases pi.W with ⟨e, _⟩ | ⟨hne, _⟩
      · omega
      · cases h : S.fs with
        | nil => exact absurd h hne
        | cons g r => exact ⟨g, r, rfl⟩
    obtain ⟨p, RIp⟩ := pi.R
    obtain ⟨o0, o1, x0, x1, y0, y1⟩ := hb.xs i hi
    obtain ⟨wf5, wf2, wf11⟩ := wi_facts pi.W hi hfs
    have hh := RIp.h10
    have hd := RIp.dd
    obtain ⟨cT, dT, _, FT, _⟩ := RIp.top hfs
    have gfl := FT.fl10; have gar := FT.ar10
    clear FT
    have hbd : ∀ (t : Nat) (g : SF), S.fs[t]? = some g → g.fl ≤ 10 ∧ g.ar ≤ 1024 := fun t g hg => by
      have hl := get_lt hg
      have kl := RIp.kl
      have F := RIp.fr t g _ hg (List.getElem?_eq_getElem (by omega))
      exact ⟨F.fl10, F.ar10⟩
    have hlive := RIp.live
    clear RIp
    have hws := wsum_mono D k (i + 1)
    rw [show i + 1 + k = D.n by omega] at hws
    have hw1 := wsum_succ D i
    have hl := pi.l; have hwb := hb.ws
    have cA := m.cA
    have fA := m.fA
    have f7 := pi.f7
    have hfl : S.fs.length = r.length + 1 := by rw [hfs]; rfl
    have gK := pi.F 0 g (by rw [hfs]; rfl)
    rw [show S.fs.drop (0 + 1) = r by rw [hfs]; rfl] at gK
    have err : stepS D i S = none → ∀ w', Same [] w0.heap.size w0 w' → R (.tuple #[.slice none 0 0, .slice none 0 0, .int .i64 (i : Int), .int .i64 29]) w' := fun hs w' sm => by
      rw [goS_succ, hs] at ez
      rw [← hR, ez]
      exact ⟨rfl, sm⟩
    have nxt : ∀ (w' : World) (S' : SS) (ca : Option Addr) (cl cc : Nat) (wa : Option Addr) (wc : Nat) (fa : Option Addr) (fl fc : Nat) (h' d' : Int), MW M (rsN Sn) w0 w' S'.A S'.fs (wl D res) ca cl cc wa (i + 1) wc fa fl fc → stepS D i S = some S' → h' = (S'.h : Int) → d' = (S'.dead : Int) →
        prepm_walk.L4 (some ⟨mb, 0, none⟩) (some ⟨fb, kf * 4, none⟩) aa al ac (some ⟨nb, 0, none⟩) D.n bc ca cl cc wa (i + 1) wc fa fl fc h' d' (i : Int) R (fun _ _ => False) w' := fun w' S' ca cl cc wa wc fa fl fc h' d' m' hs e1 e2 => by
      subst e1 e2
      refine prepm_walk.step4 _ _ _ _ _ _ _ _ _ _ _ _ _ _ _ _ _ _ _ _ _ _ _ ?_
      unfold prepm_walk.V4
      rw [wrap_i64 (by omega) (by omega), show (i : Int) + 1 = ((i + 1 : Nat) : Int) by omega]
      exact ih (i + 1) S' w' ca cl cc wa wc fa fl fc (by omega) m' (pi.step bo hi hs) (by rw [goS_succ, hs] at ez; exact ez)
    clear ih
    refine prepm_walk.step1 _ _ _ _ _ _ _ _ _ _ _ _ _ _ _ _ _ _ _ _ _ _ _ ?_
    unfold prepm_walk.V1
    refine cond_true' (decide_eq_true (by omega)) (m.whr (by rw [m.cA]; exact (wl_of pi.t).symm) (by omega) fun wa wc w1 m1 => ?_)
    have b1 := hb.keep m1.sm
    simp only [nilV_some, add_mk, Nat.zero_add, Int.toNat_natCast]
    refine ⟨⟨by omega, by omega⟩, _, _, _, b1.I.i0 i hi, b1.I.i1 i hi, b1.I.i2 i hi, newIns (i := D.ins i) fun xb w2 hxb I2 S12 => ?_⟩
    have m2 := m1.keep S12
    refine ⟨_, I2.c0, ?_⟩
    have efl : IntKind.wrap .i64 (((fl : Nat) : Int) - 1) = ((fl - 1 : Nat) : Int) := by rw [wrap_i64 (by omega) (by omega)]; omega
    rw [efl, wrap_i64 (x := (D.ins i).op) (by omega) (by omega)]
    obtain ⟨gb, hfa, g0, g1, g2⟩ := fr_cell m2.fr m2.fA (t := 0) (g := g) (by rw [hfs]; rfl)
    subst hfa
    simp only [Nat.sub_zero] at g0 g1 g2
    simp only [nilV_some, add_mk, Nat.zero_add, Int.toNat_natCast]
    refine ⟨⟨by omega, by omega⟩, _, _, _, g0, g1, g2, newFr fun tb w3 htb F3 S23 => ?_⟩
    have rd : RD M (rsN Sn) w0 w3 S.A S.fs (wl D res) ca cl cc wa (i + 1) wc (some ⟨gb, 0, none⟩) fl fc xb tb (D.ins i) g := by
      refine ⟨m2.keep S23, I2.mv S23 I2.ltA (by simp), F3, fun k hk => ?_⟩
      obtain ⟨ls, c1, _, _⟩ := m1.cs
      have := (c1.lt k hk).2
      have := I2.ltA
      omega
    clear g0 g1 g2 I2 F3 m1 m2 b1 m htb hxb S12 S23 efl
    generalize hX : D.ins i = X at *
    have hst : (skipP X.op S.dead).1 = false → stepS D i S = liveS D i X S := fun h => by
      unfold stepS
      rw [hX, if_neg (by rw [h]; simp)]
    -- a new block
    have L9 : ∀ (w' : World) (ca : Option Addr) (cl cc : Nat) (S' : SS) (gn : SF) (h' a' : Int), RD M (rsN Sn) w0 w' S'.A S.fs (wl D res) ca cl cc wa (i + 1) wc (some ⟨gb, 0, none⟩) fl fc xb tb X g → stepS D i S = some S' → S'.fs = gn :: S.fs → gn.o = i + 1 → h' = (gn.fl : Int) → a' = (gn.ar : Int) → h' = (S'.h : Int) → S'.dead = S.dead → fl < 900 →
        prepm_walk.L9 (some ⟨mb, 0, none⟩) (some ⟨fb, kf * 4, none⟩) aa al ac (some ⟨nb, 0, none⟩) D.n bc ca cl cc wa (i + 1) wc (some ⟨gb, 0, none⟩) fl fc h' (S.dead : Int) (i : Int) a' R (fun _ _ => False) w' := fun w' ca cl cc S' gn h' a' rd hs e1 e2 e3 e4 e5 e6 e7 => by
      refine prepm_walk.step9 _ _ _ _ _ _ _ _ _ _ _ _ _ _ _ _ _ _ _ _ _ _ _ _ ?_
      unfold prepm_walk.V9
      refine rd.m.frm gn _ _ _ (by rw [e2]; omega) e3 e4 e7 fun a2 c2 w2 m2 => ?_
      rw [← e1] at m2
      exact nxt w2 S' ca cl cc wa wc a2 _ c2 h' _ m2 hs e5 (by rw [e6])
    have L6 : ∀ (w' : World) (ca : Option Addr) (cl cc : Nat) (S' : SS) (gn : SF) (h' : Int), RD M (rsN Sn) w0 w' S'.A S.fs (wl D res) ca cl cc wa (i + 1) wc (some ⟨gb, 0, none⟩) fl fc xb tb X g → stepS D i S = some S' → S'.fs = gn :: S.fs → gn.o = i + 1 → h' = (gn.fl : Int) → gn.ar = arP X → h' = (S'.h : Int) → S'.dead = S.dead → fl < 900 →
        prepm_walk.L6 (some ⟨mb, 0, none⟩) (some ⟨fb, kf * 4, none⟩) aa al ac (some ⟨nb, 0, none⟩) D.n bc ca cl cc wa (i + 1) wc (some ⟨gb, 0, none⟩) fl fc h' (S.dead : Int) (i : Int) xb R (fun _ _ => False) w' := fun w' ca cl cc S' gn h' rd hs e1 e2 e3 e4 e5 e6 e7 => by
      refine prepm_walk.step6 _ _ _ _ _ _ _ _ _ _ _ _ _ _ _ _ _ _ _ _ _ _ _ _ ?_
      unfold prepm_walk.V6
      refine ⟨_, rd.x.c1, cond_intro (fun e => ?_) (fun e => ?_)⟩
      · have e : X.x = 64 := eq_of_beq e
        exact L9 w' ca cl cc S' gn h' 0 rd hs e1 e2 e3 (by rw [e4]; unfold arP; rw [if_pos e]; rfl) e5 e6 e7
      · have e : ¬ X.x = 64 := by simpa using e
        exact L9 w' ca cl cc S' gn h' 1 rd hs e1 e2 e3 (by rw [e4]; unfold arP; rw [if_neg e]; rfl) e5 e6 e7
    clear L9
    -- the plain ones
    have L16 : ∀ (w' : World) (t gv : Nat) (b : Bool), RD M (rsN Sn) w0 w' S.A S.fs (wl D res) ca cl cc wa (i + 1) wc (some ⟨gb, 0, none⟩) fl fc xb tb X g → S.dead = 0 → (b = true → stepS D i S = none) → t ≤ 2000 → gv ≤ 2000 → (b = false → stepS D i S = some { S with A := S.A ++ [⟨X.op, .k X.x, X.y⟩], h := S.h + gv - t, dead := if X.op = 0 then 1 else S.dead } ∧ t ≤ S.h + gv) →
        ∀ (t' g' : Int), (b = false → t' = (t : Int) ∧ g' = (gv : Int)) → prepm_walk.L16 (some ⟨mb, 0, none⟩) (some ⟨fb, kf * 4, none⟩) aa al ac (some ⟨nb, 0, none⟩) D.n bc ca cl cc wa (i + 1) wc (some ⟨gb, 0, none⟩) fl fc (S.h : Int) (S.dead : Int) (i : Int) xb X.op t' g' b R (fun _ _ => False) w' := fun w' t gv b rd h0 hn ht hg hs t' g' hq => by
      refine prepm_walk.step16 _ _ _ _ _ _ _ _ _ _ _ _ _ _ _ _ _ _ _ _ _ _ _ _ _ _ _ _ ?_
      unfold prepm_walk.V16
      refine cond_intro (fun e => err (hn e) w' rd.m.sm) (fun e => ⟨_, _, _, rd.x.c0, rd.x.c1, rd.x.c2, ?_⟩)
      obtain ⟨hs, hle⟩ := hs e
      obtain ⟨rfl, rfl⟩ := hq e
      refine rd.app X ⟨X.op, .k X.x, X.y⟩ (fun _ => rfl) (by omega) fun a2 c2 w2 rd2 => ?_
      have eh : IntKind.wrap .i64 (IntKind.wrap .i64 ((S.h : Int) - (t : Int)) + (gv : Int)) = ((S.h + gv - t : Nat) : Int) := by
        rw [wrap_i64 (x := (S.h : Int) - (t : Int)) (by omega) (by omega), wrap_i64 (by omega) (by omega)]; omega
      rw [eh]
      refine cond_intro (fun q => ?_) (fun q => ?_)
      · have q : X.op = 0 := eq_of_beq q
        exact nxt w2 _ a2 _ c2 wa wc (some ⟨gb, 0, none⟩) fl fc _ _ rd2.m hs rfl (by dsimp only; rw [if_pos q]; rfl)
      · have q : ¬ X.op = 0 := by simpa using q
        exact nxt w2 _ a2 _ c2 wa wc (some ⟨gb, 0, none⟩) fl fc _ _ rd2.m hs rfl (by dsimp only; rw [if_neg q])
    -- branches
    have L17 : ∀ (w' : World) (hn : Nat) (h' tx y : Int) (b : Bool) (gl : SF), RD M (rsN Sn) w0 w' S.A S.fs (wl D res) ca cl cc wa (i + 1) wc (some ⟨gb, 0, none⟩) fl fc xb tb X g → S.dead = 0 → (b = true → stepS D i S = none) → (b = false → h' = (hn : Int) ∧ (M → tx = syX Sn (brC 0 gl).s ∧ y = (brC 0 gl).y) ∧ stepS D i S = some { S with A := S.A ++ [brC X.op gl], h := hn, dead := if X.op = 12 then 1 else S.dead }) →
        prepm_walk.L17 (some ⟨mb, 0, none⟩) (some ⟨fb, kf * 4, none⟩) aa al ac (some ⟨nb, 0, none⟩) D.n bc ca cl cc wa (i + 1) wc (some ⟨gb, 0, none⟩) fl fc h' (S.dead : Int) (i : Int) xb X.op tx y b R (fun _ _ => False) w' := fun w' hn h' tx y b gl rd h0 hn0 hs => by
      refine prepm_walk.step17 _ _ _ _ _ _ _ _ _ _ _ _ _ _ _ _ _ _ _ _ _ _ _ _ _ _ _ _ ?_
      unfold prepm_walk.V17
      refine cond_intro (fun e => err (hn0 e) w' rd.m.sm) (fun e => ⟨_, rd.x.c0, ?_⟩)
      obtain ⟨eh, hty, hs⟩ := hs e
      refine rd.app ⟨X.op, tx, y⟩ (brC X.op gl) (fun hm => by rw [brC_rs, (hty hm).1, (hty hm).2]) (by omega) fun a2 c2 w2 rd2 => ?_
      refine cond_intro (fun q => ?_) (fun q => ?_)
      · have q : X.op = 12 := eq_of_beq q
        exact nxt w2 _ a2 _ c2 wa wc (some ⟨gb, 0, none⟩) fl fc _ _ rd2.m hs eh (by dsimp only; rw [if_pos q]; rfl)
      · have q : ¬ X.op = 12 := by simpa using q
        exact nxt w2 _ a2 _ c2 wa wc (some ⟨gb, 0, none⟩) fl fc _ _ rd2.m hs eh (by dsimp only; rw [if_neg q])
    have tgt : ∀ (w' : World) (l : Int), Same [] w0.heap.size w0 w' → w'.ownsRow w0.heap.size T_prepm_frame 3 (.slice (some ⟨gb, 0, none⟩) fl fc) fl (frVs S.fs) → 0 ≤ l → l ≤ 4294967295 → Runs Try.prog prepm_target.id #[.slice (some ⟨nb, 0, none⟩) D.n bc, .slice (some ⟨gb, 0, none⟩) fl fc, .int .u32 l, .slice aa al ac] w' fun v w2 => TgP M Sn S.fs l v ∧ Same [] w'.heap.size w' w2 := fun w' l sm fr l0 l1 =>
      target_spec (hb.keep sm).I n9 n1 fr fA (by omega) (adk w' sm) l l0 l1 (i := i) (by omega) (fun _ t g hg => ⟨pi.F t g hg, hbd t g hg⟩)
    have L14 : ∀ (w' : World) (h' : Int), RD M (rsN Sn) w0 w' S.A S.fs (wl D res) ca cl cc wa (i + 1) wc (some ⟨gb, 0, none⟩) fl fc xb tb X g → S.dead = 0 → X.op = 12 ∨ X.op = 13 → h' = (S.h : Int) - (if X.op = 13 then 1 else 0) →
        prepm_walk.L14 (some ⟨mb, 0, none⟩) (some ⟨fb, kf * 4, none⟩) aa al ac (some ⟨nb, 0, none⟩) D.n bc ca cl cc wa (i + 1) wc (some ⟨gb, 0, none⟩) fl fc h' (S.dead : Int) (i : Int) xb X.op tb R (fun _ _ => False) w' := fun w' h' rd h0 ho eh => by
      have hst : stepS D i S = brS X S := by
        rw [hst (by unfold skipP; rw [if_pos h0])]
        unfold liveS
        rw [if_neg (by omega), if_neg (by omega), if_neg (by omega), if_pos ho]
      refine prepm_walk.step14 _ _ _ _ _ _ _ _ _ _ _ _ _ _ _ _ _ _ _ _ _ _ _ _ _ _ ?_
      unfold prepm_walk.V14
      refine ⟨_, rd.x.c1, RunsQ.post (tgt w' X.x rd.m.sm rd.m.fr x0 x1) ?_⟩
      rintro v w2 ⟨ht, S2⟩
      have rd2 := rd.keep S2
      unfold TgP at ht
      cases hg : S.fs[X.x.toNat]? with
      | none =>
        rw [hg] at ht
        subst ht
        exact ⟨_, _, _, rfl, cond_true' rfl (L17 w2 0 h' _ _ true g rd2 h0 (fun _ => by rw [hst]; exact brS_none hfs hg) (fun q => by cases q))⟩
      | some gl =>
        rw [hg] at ht
        obtain ⟨tx, y, rfl, hty⟩ := ht
        refine ⟨_, _, _, rfl, cond_false' rfl ⟨_, rd2.t.c1, ?_⟩⟩
        rw [brS_eq hfs hg] at hst
        obtain ⟨u, u1, u2⟩ : ∃ u : Nat, (if X.op = 13 then (1 : Nat) else 0) = u ∧ (if X.op = 13 then (1 : Int) else 0) = (u : Int) := by
          by_cases q : X.op = 13
          · exact ⟨1, if_pos q, if_pos q⟩
          · exact ⟨0, if_neg q, if_neg q⟩
        rw [u1] at hst
        rw [u2] at eh
        by_cases q : S.h < g.fl + u
        · rw [if_pos q] at hst
          refine L17 w2 0 h' _ _ _ g rd2 h0 (fun _ => hst) (fun e => ?_)
          have e := of_decide_eq_false e
          omega
        · rw [if_neg q] at hst
          have e : ¬ h' < (g.fl : Int) := by omega
          exact L17 w2 (S.h - u) h' _ _ _ gl rd2 h0 (fun e' => absurd (of_decide_eq_true e') e) (fun _ => ⟨by omega, hty, hst⟩)
    clear L17
    -- the rows of a table
    have L18 : ∀ (q kk : Nat) (w' : World) (A' : List SC) (ca : Option Addr) (cl cc : Nat), (kk : Int) + (q : Int) = X.y → X.x + X.y ≤ (D.nt : Int) → RD M (rsN Sn) w0 w' A' S.fs (wl D res) ca cl cc wa (i + 1) wc (some ⟨gb, 0, none⟩) fl fc xb tb X g → cl + q ≤ 800 → S.h ≠ 0 →
        stepS D i S = (match rowsS S.fs D.tab q (X.x.toNat + kk) with | none => none | some cs => some { S with A := A' ++ cs, h := S.h - 1, dead := 1 }) →
        prepm_walk.L18 (some ⟨mb, 0, none⟩) (some ⟨fb, kf * 4, none⟩) aa al ac (some ⟨nb, 0, none⟩) D.n bc ca cl cc wa (i + 1) wc (some ⟨gb, 0, none⟩) fl fc ((S.h : Int) - 1) (i : Int) xb (kk : Int) R (fun _ _ => False) w' := by
      intro q
      induction q with
      | zero =>
        intro kk w' A' ca cl cc hkq hxy rd hcl hh0 hs
        refine prepm_walk.step18 _ _ _ _ _ _ _ _ _ _ _ _ _ _ _ _ _ _ _ _ _ _ _ _ ?_
        unfold prepm_walk.V18
        refine ⟨_, rd.x.c2, ?_⟩
        rw [wrap_i64 (by omega) (by omega)]
        refine cond_false' (decide_eq_false (by omega)) ?_
        have hs : stepS D i S = some { S with A := A' ++ [], h := S.h - 1, dead := 1 } := hs
        rw [List.append_nil] at hs
        exact nxt w' _ ca cl cc wa wc (some ⟨gb, 0, none⟩) fl fc _ _ rd.m hs (by dsimp only; omega) rfl
      | succ q ihq =>
        intro kk w' A' ca cl cc hkq hxy rd hcl hh0 hs
        refine prepm_walk.step18 _ _ _ _ _ _ _ _ _ _ _ _ _ _ _ _ _ _ _ _ _ _ _ _ ?_
        unfold prepm_walk.V18
        refine ⟨_, rd.x.c2, ?_⟩
        rw [wrap_i64 (x := X.y) (by omega) (by omega)]
        refine cond_true' (decide_eq_true (by omega)) (nilV_inA ?_)
        have rdd := rd.keep (Same.refl [] w'.heap.size w').drew
        have bd := hb.keep rdd.m.sm
        obtain ⟨tk, rfl, htab⟩ := bd.tb (by omega)
        have ei : IntKind.wrap .i64 (IntKind.wrap .i64 X.x + (kk : Int)) = ((X.x.toNat + kk : Nat) : Int) := by
          rw [wrap_i64 (x := X.x) (by omega) (by omega), wrap_i64 (by omega) (by omega)]; omega
        have hlt : X.x.toNat + kk < D.nt := by omega
        have hx0 : (0 : Int) ≤ ((X.x.toNat + kk : Nat) : Int) := by omega
        have hx1 : ((X.x.toNat + kk : Nat) : Int) < ((D.nt : Nat) : Int) := by omega
        have ht := htab _ hlt
        have ht' : w'.drew.cell? (Addr.add ⟨tk, 0, none⟩ (Int.toNat ((X.x.toNat + kk : Nat) : Int) * 1)) = some (.int .u32 (D.tab (X.x.toNat + kk))) := by
          rw [add_mk, Nat.zero_add, Nat.mul_one, Int.toNat_natCast]; exact ht
        have c3 : w'.drew.cell? ⟨fb, kf * 4 + 3, none⟩ = some (.slice (some ⟨tk, 0, none⟩) D.nt tc) := bd.c3
        have hts := hb.ts _ hlt
        have run : RunsQ Try.prog prepm_target.id #[.slice (some ⟨nb, 0, none⟩) D.n bc, .slice (some ⟨gb, 0, none⟩) fl fc, .int .u32 (D.tab (X.x.toNat + kk)), .slice aa al ac] w'.drew (fun r26 w27 => (∃ x28 : Int, ∃ x29 : Int, ∃ x30 : Bool, (r26 = (.tuple #[(.int .u32 x28), (.int .u64 x29), (.bool x30)]) ∧ (cond (!x30)
            (R (.tuple #[(.slice none 0 0), (.slice none 0 0), (.int .i64 (i : Int)), (.int .i64 29)]) w27)
            (letB (Array.size (World.heap w27)) fun b31 => letW (World.alloc w27 (.cells #[(.int .u8 225), (.int .u32 x28), (.int .u64 x29)] T_api_Ins)) fun w32 => (∃ x34 : Option Addr, ∃ x35 : Nat, ∃ x36 : Nat, ∃ w33, Sem.run Try.prog (Builtin.append_ #[T_sl_api_Ins, T_sl_api_Ins] T_sl_api_Ins #[(.slice ca cl cc), (.slice (some ⟨b31, 0, none⟩) 1 1)]) w32 = .ok (.slice x34 x35 x36) w33 ∧ (prepm_walk.L18 (some ⟨mb, 0, none⟩) (some ⟨fb, kf * 4, none⟩) aa al ac (some ⟨nb, 0, none⟩) D.n bc x34 x35 x36 wa (i + 1) wc (some ⟨gb, 0, none⟩) fl fc ((S.h : Int) - 1) (i : Int) xb (IntKind.wrap .i64 ((kk : Int) + (1 : Int))) R (fun _ _ => False) w33))))))) (fun _ _ => False) := by
          refine RunsQ.post (tgt w'.drew _ rdd.m.sm rdd.m.fr hts.1 hts.2) ?_
          rintro v w2 ⟨htg, S2⟩
          have rd2 := rdd.keep S2
          unfold TgP at htg
          unfold rowsS at hs
          cases hg : S.fs[(D.tab (X.x.toNat + kk)).toNat]? with
          | none =>
            rw [hg] at htg hs
            subst htg
            exact ⟨_, _, _, rfl, cond_true' rfl (err hs w2 rd2.m.sm)⟩
          | some gl =>
            rw [hg] at htg hs
            obtain ⟨tx, y, rfl, hty⟩ := htg
            refine ⟨_, _, _, rfl, cond_false' rfl (rd2.app ⟨225, tx, y⟩ (brC 225 gl) (fun hm => by rw [brC_rs, (hty hm).1, (hty hm).2]) (by omega) fun a3 c3 w3 rd3 => ?_)⟩
            rw [wrap_i64 (by omega) (by omega), show (kk : Int) + 1 = ((kk + 1 : Nat) : Int) by omega]
            refine ihq (kk + 1) w3 _ a3 _ c3 (by omega) hxy rd3 (by omega) hh0 ?_
            rw [hs, show X.x.toNat + (kk + 1) = X.x.toNat + kk + 1 by omega]
            cases rowsS S.fs D.tab q (X.x.toNat + kk + 1) with
            | none => rfl
            | some cs => simp
        have X1 := rdd.x.c1
        clear htab bd hs ihq
        repeat' first
          | exact trivial
          | exact run
          | refine ⟨_, _, _, c3, ?_⟩
          | (refine ⟨_, X1, ?_⟩; rw [ei])
          | refine ⟨⟨hx0, hx1⟩, nilV_inA ?_⟩
          | refine ⟨_, ht', ?_⟩
          | refine And.intro ?_ ?_
    clear tgt
    have L15 : ∀ (w' : World) (b : Bool), RD M (rsN Sn) w0 w' S.A S.fs (wl D res) ca cl cc wa (i + 1) wc (some ⟨gb, 0, none⟩) fl fc xb tb X g → S.dead = 0 → X.op = 14 → b = decide (S.h ≤ g.fl ∨ X.y < 1 ∨ (D.nt : Int) < X.y ∨ (D.nt : Int) - X.y < X.x) →
        prepm_walk.L15 (some ⟨mb, 0, none⟩) (some ⟨fb, kf * 4, none⟩) aa al ac (some ⟨nb, 0, none⟩) D.n bc ca cl cc wa (i + 1) wc (some ⟨gb, 0, none⟩) fl fc ((S.h : Int) - 1) (i : Int) xb b R (fun _ _ => False) w' := fun w' b rd h0 ho eb => by
      have hst : stepS D i S = tabS D X S := by
        rw [hst (by unfold skipP; rw [if_pos h0])]
        unfold liveS
        rw [if_neg (by omega), if_neg (by omega), if_neg (by omega), if_neg (by omega), if_pos ho]
      rw [tabS_eq hfs] at hst
      refine prepm_walk.step15 _ _ _ _ _ _ _ _ _ _ _ _ _ _ _ _ _ _ _ _ _ _ _ _ ?_
      unfold prepm_walk.V15
      refine cond_intro (fun e => err ?_ w' rd.m.sm) (fun e => ⟨_, rd.x.c0, _, rd.x.c2, ?_⟩)
      · rw [hst, if_pos (of_decide_eq_true (eb ▸ e))]
      have e : ¬ (S.h ≤ g.fl ∨ X.y < 1 ∨ (D.nt : Int) < X.y ∨ (D.nt : Int) - X.y < X.x) := of_decide_eq_false (eb ▸ e)
      rw [if_neg e] at hst
      rw [wrap_u32 (by omega) (by omega)]
      rw [if_pos ⟨ho, by omega⟩] at hw1
      refine rd.app ⟨X.op, X.y, 0⟩ ⟨14, .k X.y, 0⟩ (fun _ => by rw [ho]; rfl) (by omega) fun a2 c2 w2 rd2 => ?_
      refine L18 X.y.toNat 0 w2 _ a2 _ c2 (by omega) (by omega) rd2 (by omega) (by omega) ?_
      rw [hst, Nat.add_zero]
      cases rowsS S.fs D.tab X.y.toNat X.x.toNat with
      | none => rfl
      | some cs => simp
    clear L18
    have L11 : ∀ (b : Bool), S.dead = 0 → ¬ (X.op = 2 ∨ X.op = 3 ∨ X.op = 4) → ¬ X.op = 5 → ¬ X.op = 11 → b = decide (X.op = 12 ∨ X.op = 13) →
        prepm_walk.L11 (some ⟨mb, 0, none⟩) (some ⟨fb, kf * 4, none⟩) aa al ac (some ⟨nb, 0, none⟩) D.n bc ca cl cc wa (i + 1) wc (some ⟨gb, 0, none⟩) fl fc (S.h : Int) (S.dead : Int) (i : Int) xb X.op tb b R (fun _ _ => False) w3 := fun b h0 q2 q5 q11 eb => by
      have hst := hst (by unfold skipP; rw [if_pos h0])
      unfold liveS at hst
      rw [if_neg q2, if_neg q5, if_neg q11] at hst
      refine prepm_walk.step11 _ _ _ _ _ _ _ _ _ _ _ _ _ _ _ _ _ _ _ _ _ _ _ _ _ _ _ ?_
      unfold prepm_walk.V11
      refine cond_intro (fun e => ?_) (fun e => ?_)
      · have e : X.op = 12 ∨ X.op = 13 := of_decide_eq_true (eb ▸ e)
        refine cond_intro (fun q => ?_) (fun q => ?_)
        · have q : X.op = 13 := eq_of_beq q
          refine L14 w3 _ rd h0 e ?_
          rw [wrap_i64 (by omega) (by omega), if_pos q]
        · have q : ¬ X.op = 13 := by simpa using q
          refine L14 w3 _ rd h0 e ?_
          rw [if_neg q]; omega
      have q12 : ¬ (X.op = 12 ∨ X.op = 13) := of_decide_eq_false (eb ▸ e)
      rw [if_neg q12] at hst
      refine cond_intro (fun e => ?_) (fun e => ?_)
      · have e : X.op = 14 := eq_of_beq e
        have rdd := rd.keep (Same.refl [] w3.heap.size w3).drew
        have bd := hb.keep rdd.m.sm
        have c3 := bd.c3
        have eh : IntKind.wrap .i64 ((S.h : Int) - 1) = (S.h : Int) - 1 := wrap_i64 (by omega) (by omega)
        simp only [true_and, nilV_some]
        rw [eh]
        have L15t : S.h ≤ g.fl ∨ X.y < 1 ∨ (D.nt : Int) < X.y ∨ (D.nt : Int) - X.y < X.x → prepm_walk.L15 (some ⟨mb, 0, none⟩) (some ⟨fb, kf * 4, none⟩) aa al ac (some ⟨nb, 0, none⟩) D.n bc ca cl cc wa (i + 1) wc (some ⟨gb, 0, none⟩) fl fc ((S.h : Int) - 1) (i : Int) xb true R (fun _ _ => False) w3.drew := fun q => L15 w3.drew true rdd h0 e (decide_eq_true q).symm
        refine ⟨_, rdd.t.c1, cond_intro (fun q => L15t (.inl (by have := of_decide_eq_true q; omega))) (fun q1 => ⟨_, rdd.x.c2, cond_intro (fun q => L15t (.inr (.inl (of_decide_eq_true q)))) (fun q2 => ⟨_, rdd.x.c2, _, _, _, c3, ?_⟩)⟩)⟩
        have q1 := of_decide_eq_false q1
        have q2 := of_decide_eq_false q2
        rw [wrap_u64 (x := ((D.nt : Nat) : Int)) (by omega) (by omega)]
        refine cond_intro (fun q => L15t (.inr (.inr (.inl (of_decide_eq_true q))))) (fun q3 => ⟨_, rdd.x.c1, _, _, _, c3, _, rdd.x.c2, ?_⟩)
        have q3 := of_decide_eq_false q3
        rw [wrap_u64 (x := X.x) (by omega) (by omega), wrap_u64 (x := ((D.nt : Nat) : Int)) (by omega) (by omega), wrap_u64 (x := ((D.nt : Nat) : Int) - X.y) (by omega) (by omega)]
        refine L15 w3.drew _ rdd h0 e ?_
        by_cases q4 : X.x > (D.nt : Int) - X.y
        · rw [decide_eq_true q4, decide_eq_true (by omega)]
        · rw [decide_eq_false q4, decide_eq_false (by omega)]
      have q14 : ¬ X.op = 14 := by simpa using e
      rw [if_neg q14] at hst
      refine cond_intro (fun e => ⟨_, rd.x.c0, ?_⟩) (fun e => ⟨_, _, _, rd.x.c0, rd.x.c1, rd.x.c2, ?_⟩)
      · have e : X.op = 15 := eq_of_beq e
        rw [if_pos e] at hst
        refine rd.app ⟨X.op, 0, 0⟩ ⟨15, .k 0, 0⟩ (fun _ => by rw [e]; rfl) (by omega) fun a2 c2 w2 rd2 => ?_
        exact nxt w2 _ a2 _ c2 wa wc (some ⟨gb, 0, none⟩) fl fc _ _ rd2.m hst rfl rfl
      · have q15 : ¬ X.op = 15 := by simpa using e
        rw [if_neg q15] at hst
        have hX' : InsIn X := ⟨o0, o1, x0, x1, y0, y1⟩
        refine RunsQ.post (meffect_spec (hH.keep rd.m.sm) PBk X hX') ?_
        rintro v w2 ⟨he, S2⟩
        have rd2 := rd.keep S2
        have hef := hb.ef
        cases ef : effP P X with
        | none =>
          rw [ef] at he
          obtain ⟨t', g', rfl⟩ := he
          exact ⟨_, _, _, rfl, cond_true' rfl (L16 w2 0 0 true rd2 h0 (fun _ => by rw [hst]; exact plainS_none hfs (by rw [hef]; exact ef)) (by omega) (by omega) (fun q => by cases q) _ _ (fun q => by cases q))⟩
        | some tg =>
          obtain ⟨t, gv⟩ := tg
          rw [ef] at he
          have he : v = _ := he
          subst he
          obtain ⟨s1, s2⟩ := eff_small PBk hX' ef
          rw [plainS_eq hfs (show D.ef X = some (t, gv) by rw [hef]; exact ef)] at hst
          refine ⟨_, _, _, rfl, cond_false' rfl ⟨_, rd2.t.c1, ?_⟩⟩
          rw [wrap_i64 (x := (S.h : Int) - (t : Int)) (by omega) (by omega), wrap_i64 (x := (S.h : Int) - (t : Int) + (gv : Int)) (by omega) (by omega)]
          refine cond_intro (fun q => ?_) (fun q => ?_)
          · have q := of_decide_eq_true q
            rw [if_pos (by omega)] at hst
            exact L16 w2 t gv true rd2 h0 (fun _ => hst) s1 s2 (fun q => by cases q) _ _ (fun _ => ⟨rfl, rfl⟩)
          · have q := of_decide_eq_false q
            by_cases q2 : S.h < g.fl + t ∨ 10 + t < S.h + gv
            · rw [if_pos q2] at hst
              refine L16 w2 t gv _ rd2 h0 (fun _ => hst) s1 s2 (fun q3 => ?_) _ _ (fun _ => ⟨rfl, rfl⟩)
              have q3 := of_decide_eq_false q3
              omega
            · rw [if_neg q2] at hst
              refine L16 w2 t gv _ rd2 h0 (fun q3 => ?_) s1 s2 (fun _ => ⟨hst, by omega⟩) _ _ (fun _ => ⟨rfl, rfl⟩)
              have q3 := of_decide_eq_true q3
              omega
    clear L14 L15 L16
    -- else, end
    have L13 : ∀ (w' : World) (S' : SS) (ca : Option Addr) (cl cc : Nat), RD M (rsN Sn) w0 w' S'.A S.fs (wl D res) ca cl cc wa (i + 1) wc (some ⟨gb, 0, none⟩) fl fc xb tb X g → stepS D i S = some S' → S'.h = g.fl → S'.dead = 0 → S'.fs = { g with cn := false } :: r →
        prepm_walk.L13 (some ⟨mb, 0, none⟩) (some ⟨fb, kf * 4, none⟩) aa al ac (some ⟨nb, 0, none⟩) D.n bc ca cl cc wa (i + 1) wc (some ⟨gb, 0, none⟩) fl fc (i : Int) tb R (fun _ _ => False) w' := fun w' S' ca cl cc rd hs e1 e2 e3 => by
      refine prepm_walk.step13 _ _ _ _ _ _ _ _ _ _ _ _ _ _ _ _ _ _ _ _ _ _ ?_
      unfold prepm_walk.V13
      refine ⟨_, rd.t.c1, nxt w' S' ca cl cc wa wc (some ⟨gb, 0, none⟩) fl fc _ _ ?_ hs (by rw [e1]) (by rw [e2]; rfl)⟩
      have mm := rd.m
      exact ⟨mm.sm, mm.cs, mm.cA, mm.wh, by rw [e3]; rw [hfs] at mm; exact mm.fr, by rw [e3]; rw [hfs] at mm; exact mm.fA⟩
    have L12 : ∀ (w' : World) (S' : SS) (cb : Nat) (tx : Int), RD M (rsN Sn) w0 w' S.A S.fs (wl D res) ca cl cc wa (i + 1) wc (some ⟨gb, 0, none⟩) fl fc xb tb X g → InsAt w' cb ⟨224, tx, 0⟩ → (M → tx = syX Sn (.e g.o)) → stepS D i S = some S' → S'.A = S.A ++ [⟨224, .e g.o, 0⟩] → S'.h = g.fl → S'.dead = 0 → S'.fs = { g with cn := false } :: r →
        prepm_walk.L12 (some ⟨mb, 0, none⟩) (some ⟨fb, kf * 4, none⟩) aa al ac (some ⟨nb, 0, none⟩) D.n bc ca cl cc wa (i + 1) wc (some ⟨gb, 0, none⟩) fl fc (i : Int) tb cb R (fun _ _ => False) w' := fun w' S' cb tx rd I hm hs e0 e1 e2 e3 => by
      refine prepm_walk.step12 _ _ _ _ _ _ _ _ _ _ _ _ _ _ _ _ _ _ _ _ _ _ _ ?_
      unfold prepm_walk.V12
      refine ⟨_, _, _, I.c0, I.c1, I.c2, ?_⟩
      refine rd.app ⟨224, tx, 0⟩ ⟨224, .e g.o, 0⟩ (fun m => by rw [hm m]; rfl) (by omega) fun a2 c2 w2 rd2 => ?_
      rw [← e0] at rd2
      exact L13 w2 S' a2 _ c2 rd2 hs e1 e2 e3
    have L10 : ∀ (b : Bool), S.dead ≤ 1 → X.op = 5 ∨ X.op = 11 → b = decide (S.dead = 0 ∧ S.h ≠ g.fl + g.ar) →
        prepm_walk.L10 (some ⟨mb, 0, none⟩) (some ⟨fb, kf * 4, none⟩) aa al ac (some ⟨nb, 0, none⟩) D.n bc ca cl cc wa (i + 1) wc (some ⟨gb, 0, none⟩) fl fc (S.dead : Int) (i : Int) X.op tb b R (fun _ _ => False) w3 := fun b hd1 ho eb => by
      have hk : (skipP X.op S.dead).1 = false := by
        unfold skipP
        by_cases q : S.dead = 0
        · rw [if_pos q]
        · rw [if_neg q, if_neg (by omega)]
          by_cases q5 : X.op = 5
          · rw [if_pos q5]; exact decide_eq_false (by omega)
          · rw [if_neg q5, if_pos (by omega), if_pos (by omega)]
      have hst := hst hk
      unfold liveS at hst
      rw [if_neg (by omega)] at hst
      refine prepm_walk.step10 _ _ _ _ _ _ _ _ _ _ _ _ _ _ _ _ _ _ _ _ _ _ _ _ _ ?_
      unfold prepm_walk.V10
      refine cond_intro (fun e => err ?_ w3 rd.m.sm) (fun e => ?_)
      · have e := of_decide_eq_true (eb ▸ e)
        rw [hst]
        by_cases q5 : X.op = 5
        · rw [if_pos q5, turnS_eq hfs, if_pos e]
        · rw [if_neg q5, if_pos (by omega), shutS_eq hfs, if_pos e]
      have e := of_decide_eq_false (eb ▸ e)
      refine cond_intro (fun q5 => ?_) (fun q5 => ?_)
      · have q5 : X.op = 5 := eq_of_beq q5
        obtain ⟨hcn, hr0⟩ := wf5 q5 hd1
        rw [if_pos q5, turnS_eq hfs, if_neg e, if_neg (by rw [hcn]; simp)] at hst
        refine cond_intro (fun q0 => ?_) (fun q0 => ?_)
        · have q0 : S.dead = 0 := by have := eq_of_beq q0; omega
          have hS0 := hb.keep rd.m.sm
          have hgo : g.o ≠ 0 := fun zz => hr0 (gK.bo zz).1
          have hgi := gK.le
          refine ⟨_, rd.t.c0, RunsQ.post (mmatch_spec hS0.I (by omega) bc g.o (by omega)) ?_⟩
          rintro v w4 ⟨rfl, rfl⟩
          refine ⟨_, _, rfl, newIns (i := ⟨224, 0, 0⟩) fun cb w5 hcb I5 S45 => ?_⟩
          have rd5 := rd.keep S45
          have eA : turnA S g = S.A ++ [⟨224, .e g.o, 0⟩] := by unfold turnA; rw [if_pos q0]
          rw [eA] at hst
          rcases hA with ⟨hM, hn⟩ | ⟨hM, m2, ab, hn, hal, hc⟩
          · subst hn
            exact cond_false' rfl (L12 w5 _ cb 0 rd5 I5 (fun q => absurd q hM) hst rfl rfl rfl rfl)
          · subst hn
            subst hal
            obtain ⟨T1, T2⟩ := tg_end m2.hB m2.hr m2.hn m2.f0 gK (by omega)
            generalize hz : mtc D.ins D.n (D.n - g.o) g.o 0 none = zz at T1 T2 ⊢
            obtain ⟨en, els⟩ := zz
            dsimp only at T1 T2 ⊢
            rw [if_neg hgo] at T2
            have wbd := m2.wb (en + 1) (by omega)
            have hc5 : w5.cell? ⟨ab, en + 1, none⟩ = some (.int .i64 (wl D res (en + 1) : Int)) := by
              rw [rd5.m.sm.cell (show ab < _ from cell_lt (hc 0 (by omega))) (by simp)]; exact hc _ (by omega)
            rw [wrap_i64 (by omega) (by omega), show (en : Int) + 1 = ((en + 1 : Nat) : Int) by omega]
            simp only [nilV_some, add_mk, Nat.zero_add, Nat.mul_one, Int.toNat_natCast]
            refine cond_true' rfl ⟨⟨by omega, by omega⟩, _, hc5, I5.can 1 (by omega), letW_intro fun w6 hw6 => ?_⟩
            rw [wrap_u32 (by omega) (by omega)] at hw6
            have I6 : InsAt w6 cb ⟨224, (wl D res (en + 1) : Int), 0⟩ := by rw [hw6]; exact I5.setx _
            have S46 : Same [] w4.heap.size w4 w6 := by rw [hw6]; exact S45.setCell (.inl hcb) _
            exact L12 w6 _ cb _ (rd.keep S46) I6 (fun _ => T2.symm) hst rfl rfl rfl rfl
        · have q0 : ¬ S.dead = 0 := by rintro q; rw [q] at q0; cases q0
          have eA : turnA S g = S.A := by unfold turnA; rw [if_neg q0]
          rw [eA] at hst
          refine L13 w3 _ ca cl cc ?_ hst rfl rfl rfl
          exact rd
      · have q5 : ¬ X.op = 5 := by simpa using q5
        have q11 : X.op = 11 := by omega
        rw [if_neg q5, if_pos q11, shutS_eq hfs, if_neg e] at hst
        have es : IntKind.wrap .i64 ((g.fl : Int) + (g.ar : Int)) = ((g.fl + g.ar : Nat) : Int) := by rw [wrap_i64 (by omega) (by omega)]; omega
        have efl : IntKind.wrap .i64 (((fl : Nat) : Int) - 1) = ((fl - 1 : Nat) : Int) := by rw [wrap_i64 (by omega) (by omega)]; omega
        refine ⟨_, rd.t.c1, _, rd.t.c2, ?_⟩
        rw [es, efl]
        refine cond_intro (fun q10 => err ?_ w3 rd.m.sm) (fun q10 => ?_)
        · have q10 := of_decide_eq_true q10
          rw [hst, if_pos (by omega)]
        have q10 := of_decide_eq_false q10
        rw [if_neg (by omega)] at hst
        have mm := rd.m
        rw [hfs] at mm
        obtain ⟨gb', hgb', hfl', hfc, mp⟩ := mm.pop
        rw [show fl - 1 = r.length by omega, Int.toNat_natCast, Nat.sub_zero, Nat.sub_zero, slAddr_lt (by omega), Nat.zero_mul, Nat.add_zero]
        refine ⟨⟨by omega, by omega, by omega, by omega⟩, cond_intro (fun qr => ?_) (fun qr => ?_)⟩
        · have qr : r.length = 0 := by have := eq_of_beq qr; omega
          have hn := wf11 q11 hd1 (List.length_eq_zero_iff.1 qr)
          rw [if_pos qr] at hst
          dsimp only at hst
          rw [if_neg (by omega)] at hst
          refine mp.app ⟨11, 0, 0⟩ ⟨11, .k 0, 0⟩ (fun _ => rfl) (by omega) fun a2 c2 w2 m2 _ _ => ?_
          rw [wrap_i64 (by omega) (by omega)]
          refine cond_false' (by rw [show ((D.n : Nat) : Int) - 1 = (i : Int) by omega]; simp) ?_
          exact nxt w2 _ a2 _ c2 wa wc (some ⟨gb, 0, none⟩) _ fc _ _ m2 hst rfl rfl
        · have qr : ¬ r.length = 0 := by rintro q; rw [q] at qr; cases qr
          rw [if_neg qr] at hst
          dsimp only at hst
          rw [if_neg (by omega)] at hst
          exact nxt w3 _ ca cl cc wa wc (some ⟨gb, 0, none⟩) _ fc _ _ mp hst rfl rfl
    clear L12 L13
    have L7 : ∀ (b : Bool), (skipP X.op S.dead).1 = false → ¬ (X.op = 2 ∨ X.op = 3 ∨ X.op = 4) → b = decide (X.op = 5 ∨ X.op = 11) →
        prepm_walk.L7 (some ⟨mb, 0, none⟩) (some ⟨fb, kf * 4, none⟩) aa al ac (some ⟨nb, 0, none⟩) D.n bc ca cl cc wa (i + 1) wc (some ⟨gb, 0, none⟩) fl fc (S.h : Int) (S.dead : Int) (i : Int) xb X.op tb b R (fun _ _ => False) w3 := fun b hk q2 eb => by
      refine prepm_walk.step7 _ _ _ _ _ _ _ _ _ _ _ _ _ _ _ _ _ _ _ _ _ _ _ _ _ _ _ ?_
      unfold prepm_walk.V7
      refine cond_intro (fun e => ?_) (fun e => ?_)
      · have e := of_decide_eq_true (eb ▸ e)
        have hd1 : S.dead ≤ 1 := by
          unfold skipP at hk
          by_cases q : S.dead = 0
          · omega
          · rw [if_neg q, if_neg q2] at hk
            by_cases q5 : X.op = 5
            · rw [if_pos q5] at hk
              have := of_decide_eq_false hk
              omega
            · rw [if_neg q5, if_pos (by omega)] at hk
              by_cases q1 : S.dead = 1
              · omega
              · rw [if_neg q1] at hk; cases hk
        refine cond_intro (fun q0 => ⟨_, rd.t.c1, _, rd.t.c2, L10 _ hd1 e ?_⟩) (fun q0 => L10 _ hd1 e ?_)
        · have q0 : S.dead = 0 := by have := eq_of_beq q0; omega
          rw [wrap_i64 (by omega) (by omega)]
          by_cases q : S.h = g.fl + g.ar
          · rw [decide_eq_false (by omega), q]; simp
          · rw [decide_eq_true ⟨q0, q⟩]
            have : ¬ (S.h : Int) = (g.fl : Int) + (g.ar : Int) := by omega
            simpa using this
        · have q0 : ¬ S.dead = 0 := by rintro q; rw [q] at q0; cases q0
          rw [decide_eq_false (by omega)]
      · have e := of_decide_eq_false (eb ▸ e)
        have h0 : S.dead = 0 := by
          unfold skipP at hk
          by_cases q : S.dead = 0
          · exact q
          · rw [if_neg q, if_neg q2, if_neg (by omega), if_neg (by omega)] at hk; cases hk
        refine cond_intro (fun q => L11 true h0 q2 (by omega) (by omega) ?_) (fun q => L11 _ h0 q2 (by omega) (by omega) ?_)
        · have := eq_of_beq q
          rw [decide_eq_true (by omega)]
        · have q : ¬ X.op = 12 := by simpa using q
          by_cases q13 : X.op = 13
          · rw [decide_eq_true (by omega), q13]; rfl
          · rw [decide_eq_false (by omega)]; simpa using q13
    clear L10 L11
    -- if
    have L8 : ∀ (w' : World) (S' : SS) (cb : Nat) (tx : Int) (gn : SF), RD M (rsN Sn) w0 w' S.A S.fs (wl D res) ca cl cc wa (i + 1) wc (some ⟨gb, 0, none⟩) fl fc xb tb X g → InsAt w' cb ⟨4, tx, 0⟩ → (M → tx = syX Sn (.c (i + 1))) → stepS D i S = some S' → S'.A = S.A ++ [⟨4, .c (i + 1), 0⟩] → S'.fs = gn :: S.fs → gn.o = i + 1 → (S.h : Int) - 1 = (gn.fl : Int) → gn.ar = arP X → (S.h : Int) - 1 = (S'.h : Int) → S'.dead = S.dead → fl < 900 →
        prepm_walk.L8 (some ⟨mb, 0, none⟩) (some ⟨fb, kf * 4, none⟩) aa al ac (some ⟨nb, 0, none⟩) D.n bc ca cl cc wa (i + 1) wc (some ⟨gb, 0, none⟩) fl fc ((S.h : Int) - 1) (S.dead : Int) (i : Int) xb cb R (fun _ _ => False) w' := fun w' S' cb tx gn rd I hm hs e0 e1 e2 e3 e4 e5 e6 e7 => by
      refine prepm_walk.step8 _ _ _ _ _ _ _ _ _ _ _ _ _ _ _ _ _ _ _ _ _ _ _ _ _ ?_
      unfold prepm_walk.V8
      refine ⟨_, _, _, I.c0, I.c1, I.c2, ?_⟩
      refine rd.app ⟨4, tx, 0⟩ ⟨4, .c (i + 1), 0⟩ (fun m => by rw [hm m]; rfl) (by omega) fun a2 c2 w2 rd2 => ?_
      rw [← e0] at rd2
      exact L6 w2 a2 _ c2 S' gn _ rd2 hs e1 e2 e3 e4 e5 e6 e7
    -- the arms
    have L3 : ∀ (b : Bool) (ops : Bool), b = (skipP X.op S.dead).1 → ops = decide (X.op = 2 ∨ X.op = 3 ∨ X.op = 4) →
        prepm_walk.L3 (some ⟨mb, 0, none⟩) (some ⟨fb, kf * 4, none⟩) aa al ac (some ⟨nb, 0, none⟩) D.n bc ca cl cc wa (i + 1) wc (some ⟨gb, 0, none⟩) fl fc (S.h : Int) (S.dead : Int) (i : Int) xb X.op tb ops b R (fun _ _ => False) w3 := fun b ops eb eo => by
      refine prepm_walk.step3 _ _ _ _ _ _ _ _ _ _ _ _ _ _ _ _ _ _ _ _ _ _ _ _ _ _ _ _ ?_
      unfold prepm_walk.V3
      refine cond_intro (fun e => ?_) (fun e => ?_)
      · have hk : (skipP X.op S.dead).1 = true := by rw [← eb]; exact e
        have hs : stepS D i S = some { S with dead := (skipP X.op S.dead).2 } := by unfold stepS; rw [hX, if_pos hk]
        have mm : MW M (rsN Sn) w0 w3 ({ S with dead := (skipP X.op S.dead).2 } : SS).A ({ S with dead := (skipP X.op S.dead).2 } : SS).fs (wl D res) ca cl cc wa (i + 1) wc (some ⟨gb, 0, none⟩) fl fc := rd.m
        have d0 : S.dead ≠ 0 := fun q => by unfold skipP at hk; rw [if_pos q] at hk; cases hk
        refine cond_intro (fun e2 => ?_) (fun e2 => ?_)
        · have e2 := of_decide_eq_true (eo ▸ e2)
          refine nxt w3 _ ca cl cc wa wc (some ⟨gb, 0, none⟩) fl fc _ _ mm hs rfl ?_
          rw [wrap_i64 (by omega) (by omega)]
          dsimp only
          unfold skipP
          rw [if_neg d0, if_pos e2]
          rfl
        have e2 := of_decide_eq_false (eo ▸ e2)
        refine cond_intro (fun e3 => ?_) (fun e3 => ?_)
        · have e3 : X.op = 11 := eq_of_beq e3
          refine nxt w3 _ ca cl cc wa wc (some ⟨gb, 0, none⟩) fl fc _ _ mm hs rfl ?_
          rw [wrap_i64 (by omega) (by omega)]
          dsimp only
          unfold skipP at hk ⊢
          rw [if_neg d0, if_neg e2, if_neg (by omega), if_pos e3] at hk ⊢
          by_cases q : S.dead = 1
          · rw [if_pos q] at hk; cases hk
          · rw [if_neg q]; dsimp only; omega
        · have e3 : ¬ X.op = 11 := by simpa using e3
          refine nxt w3 _ ca cl cc wa wc (some ⟨gb, 0, none⟩) fl fc _ _ mm hs rfl ?_
          dsimp only
          unfold skipP
          rw [if_neg d0, if_neg e2]
          by_cases q5 : X.op = 5
          · rw [if_pos q5]
          · rw [if_neg q5, if_neg e3]
      · have hk : (skipP X.op S.dead).1 = false := by rw [← eb]; exact e
        refine cond_intro (fun e2 => ?_) (fun e2 => ?_)
        · have e2 := of_decide_eq_true (eo ▸ e2)
          have h0 : S.dead = 0 := by
            unfold skipP at hk
            by_cases q : S.dead = 0
            · exact q
            · rw [if_neg q, if_pos e2] at hk; cases hk
          have hlt := wf2 e2 h0
          have hlv := hlive h0 g r hfs
          have hst := hst hk
          unfold liveS at hst
          rw [if_pos e2, openS_eq hfs, if_neg (by omega)] at hst
          refine cond_intro (fun e4 => ⟨_, rd.t.c1, ?_⟩) (fun e4 => ?_)
          · have e4 : X.op = 4 := eq_of_beq e4
            rw [if_pos e4] at hst
            rw [wrap_i64 (by omega) (by omega)]
            refine cond_intro (fun q => err ?_ w3 rd.m.sm) (fun q => ?_)
            · have q := of_decide_eq_true q
              rw [hst, if_pos (by omega)]
            have q := of_decide_eq_false q
            rw [if_neg (by omega)] at hst
            have hS0 := hb.keep rd.m.sm
            have hmt := mmatch_spec hS0.I (by omega) bc (i + 1) (by omega)
            rw [show (((i + 1 : Nat) : Int) - 1) = (i : Int) by omega] at hmt
            refine RunsQ.post hmt ?_
            rintro v w4 ⟨rfl, rfl⟩
            refine ⟨_, _, rfl, newIns (i := ⟨4, 0, 0⟩) fun cb w5 hcb I5 S45 => ?_⟩
            have rd5 := rd.keep S45
            have fin : ∀ (w6 : World) (tx : Int), Same [] w4.heap.size w4 w6 → InsAt w6 cb ⟨4, tx, 0⟩ → (M → tx = syX Sn (.c (i + 1))) → prepm_walk.L8 (some ⟨mb, 0, none⟩) (some ⟨fb, kf * 4, none⟩) aa al ac (some ⟨nb, 0, none⟩) D.n bc ca cl cc wa (i + 1) wc (some ⟨gb, 0, none⟩) fl fc ((S.h : Int) - 1) (S.dead : Int) (i : Int) xb cb R (fun _ _ => False) w6 := fun w6 tx S46 I6 hm =>
              L8 w6 _ cb tx _ (rd.keep S46) I6 hm hst rfl rfl rfl (by dsimp only; omega) rfl (by dsimp only; omega) rfl (by omega)
            rcases hA with ⟨hM, hn⟩ | ⟨hM, m2, ab, hn, hal, hc⟩
            · subst hn
              refine cond_false' rfl ?_
              refine prepm_walk.step5 _ _ _ _ _ _ _ _ _ _ _ _ _ _ _ _ _ _ _ _ _ _ _ _ _ _ _ _ ?_
              unfold prepm_walk.V5
              exact cond_false' rfl (cond_false' rfl (fin w5 0 S45 I5 (fun q => absurd q hM)))
            · subst hn
              subst hal
              have hX4 : (D.ins i).op = 4 := by rw [hX]; exact e4
              obtain ⟨T1, T3, T2⟩ := tg_else m2.hB m2.hr m2.hn m2.f0 pi.t h0 hX4 hfs hst hi
              have hc5 : ∀ j, j ≤ D.n → w5.cell? ⟨ab, j, none⟩ = some (.int .i64 (wl D res j : Int)) := fun j hj => by
                rw [rd5.m.sm.cell (show ab < _ from cell_lt (hc 0 (by omega))) (by simp)]; exact hc _ (by omega)
              generalize hz : mtc D.ins D.n (D.n - (i + 1)) (i + 1) 0 none = zz at T1 T2 T3 ⊢
              obtain ⟨en, els⟩ := zz
              dsimp only at T1 T2 T3 ⊢
              have set : ∀ j, j ≤ D.n → syX Sn (.c (i + 1)) = (wl D res j : Int) → ∀ w6, w6 = World.setCell w5 ⟨cb, 1, none⟩ (.int .u32 (IntKind.wrap .u32 (wl D res j : Int))) → prepm_walk.L8 (some ⟨mb, 0, none⟩) (some ⟨fb, kf * 4, none⟩) (some ⟨ab, 0, none⟩) (D.n + 1) ac (some ⟨nb, 0, none⟩) D.n bc ca cl cc wa (i + 1) wc (some ⟨gb, 0, none⟩) fl fc ((S.h : Int) - 1) (S.dead : Int) (i : Int) xb cb R (fun _ _ => False) w6 := fun j hj hsy w6 hw6 => by
                have := m2.wb j hj
                rw [wrap_u32 (by omega) (by omega)] at hw6
                exact fin w6 _ (by rw [hw6]; exact S45.setCell (.inl hcb) _) (by rw [hw6]; exact I5.setx _) (fun _ => hsy.symm)
              refine cond_true' rfl ?_
              refine prepm_walk.step5 _ _ _ _ _ _ _ _ _ _ _ _ _ _ _ _ _ _ _ _ _ _ _ _ _ _ _ _ ?_
              unfold prepm_walk.V5
              simp only [nilV_some, add_mk, Nat.zero_add, Nat.mul_one]
              cases els with
              | none =>
                refine cond_false' rfl (cond_true' rfl ?_)
                rw [wrap_i64 (by omega) (by omega), show (en : Int) + 1 = ((en + 1 : Nat) : Int) by omega, Int.toNat_natCast]
                exact ⟨⟨by omega, by omega⟩, _, hc5 (en + 1) (by omega), I5.can 1 (by omega), letW_intro fun w6 hw6 => set (en + 1) (by omega) T2 w6 hw6⟩
              | some qq =>
                have hq := T3 qq rfl
                refine cond_true' (decide_eq_true (show elsI (some qq) ≥ 0 by show (qq : Int) ≥ 0; omega)) ?_
                show (0 ≤ IntKind.wrap .i64 ((qq : Int) + 1) ∧ IntKind.wrap .i64 ((qq : Int) + 1) < _) ∧ _
                rw [show elsI (some qq) = (qq : Int) from rfl, wrap_i64 (by omega) (by omega), show (qq : Int) + 1 = ((qq + 1 : Nat) : Int) by omega, Int.toNat_natCast]
                exact ⟨⟨by omega, by omega⟩, _, hc5 (qq + 1) (by omega), I5.can 1 (by omega), letW_intro fun w6 hw6 => set (qq + 1) (by omega) T2 w6 hw6⟩
          · have e4 : ¬ X.op = 4 := by simpa using e4
            rw [if_neg e4] at hst
            refine L6 w3 ca cl cc _ _ _ ?_ hst rfl rfl rfl rfl rfl rfl (by omega)
            exact rd
        · have e2 := of_decide_eq_false (eo ▸ e2)
          refine cond_intro (fun q => L7 true hk e2 ?_) (fun q => L7 _ hk e2 ?_)
          · have := eq_of_beq q
            rw [decide_eq_true (by omega)]
          · have q : ¬ X.op = 5 := by simpa using q
            by_cases q11 : X.op = 11
            · rw [decide_eq_true (by omega), q11]; rfl
            · rw [decide_eq_false (by omega)]; simpa using q11
    clear L6 L7 L8
    have L2 : ∀ (ops : Bool), ops = decide (X.op = 2 ∨ X.op = 3 ∨ X.op = 4) →
        prepm_walk.L2 (some ⟨mb, 0, none⟩) (some ⟨fb, kf * 4, none⟩) aa al ac (some ⟨nb, 0, none⟩) D.n bc ca cl cc wa (i + 1) wc (some ⟨gb, 0, none⟩) fl fc (S.h : Int) (S.dead : Int) (i : Int) xb X.op tb ops R (fun _ _ => False) w3 := fun ops eo => by
      refine prepm_walk.step2 _ _ _ _ _ _ _ _ _ _ _ _ _ _ _ _ _ _ _ _ _ _ _ _ _ _ _ ?_
      unfold prepm_walk.V2
      have nskip : ∀ (b : Bool), b = (skipP X.op S.dead).1 → b = (skipP X.op S.dead).1 := fun _ h => h
      refine cond_intro (fun q => L3 true ops ?_ eo) (fun q => cond_intro (fun q1 => cond_intro (fun q5 => L3 _ ops ?_ eo) (fun q5 => L3 false ops ?_ eo)) (fun q1 => L3 false ops ?_ eo))
      · have q := of_decide_eq_true q
        unfold skipP
        rw [if_neg (by omega)]
        split
        · rfl
        · split
          · exact (decide_eq_true (by omega)).symm
          · split
            · rw [if_neg (by omega)]
            · rfl
      · have q1 : S.dead = 1 := by have := eq_of_beq q1; omega
        have q5 : ¬ X.op = 5 := by simpa using q5
        unfold skipP
        rw [if_neg (by omega)]
        by_cases q11 : X.op = 11
        · rw [if_neg (by omega), if_neg q5, if_pos q11, if_pos q1, q11]; rfl
        · have : (X.op != (11 : Int)) = true := by simpa using q11
          rw [this]
          by_cases c2 : X.op = 2 ∨ X.op = 3 ∨ X.op = 4
          · rw [if_pos c2]
          · rw [if_neg c2, if_neg q5, if_neg q11]
      · have q1 : S.dead = 1 := by have := eq_of_beq q1; omega
        have q5 : X.op = 5 := by simpa using q5
        unfold skipP
        rw [if_neg (by omega), if_neg (by omega), if_pos q5]
        exact (decide_eq_false (by omega)).symm
      · have q := of_decide_eq_false q
        have q1 : ¬ S.dead = 1 := by rintro z; rw [z] at q1; cases q1
        unfold skipP
        rw [if_pos (by omega)]
    refine cond_intro (fun e => L2 true ?_) (fun e2 => cond_intro (fun e => L2 true ?_) (fun e3 => L2 _ ?_))
    · have := eq_of_beq e; rw [decide_eq_true (by omega)]
    · have := eq_of_beq e; rw [decide_eq_true (by omega)]
    · have e2 : ¬ X.op = 2 := by simpa using e2
      have e3 : ¬ X.op = 3 := by simpa using e3
      by_cases q : X.op = 4
      · rw [decide_eq_true (by omega), q]; rfl
      · rw [decide_eq_false (by omega)]; simpa using q
end
end Go.Proofs.Qxb6500321a
