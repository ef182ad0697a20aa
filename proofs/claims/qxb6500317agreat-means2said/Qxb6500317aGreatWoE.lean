/-
  The law World: the five texts.
-/
import Derived.Test.Qxb6500317aGreatWoD
set_option linter.unusedSimpArgs false
set_option linter.unusedVariables false
set_option maxRecDepth 100000
set_option linter.unusedSectionVars false
set_option maxHeartbeats 2000000
namespace Go.Proofs.Qxb6500317aGreat
open Go Go.Vc

/-- A machine, whatever it holds; its tape is empty. -/
def XX (W w : World) (A : XA) : Prop := ∃ F ms h S fr v5 v6 v7 v8, XB W w A F ms h S fr ∧ X58 w A.xb v5 v6 v7 v8 ∧ SW S ∧ h.left = 0
section
variable {W w w' : World} {A : XA}
theorem XX.keep (x : XX W w A) (hs : Same [] w.heap.size w w') : XX W w' A := by
  obtain ⟨F, ms, h, S, fr, v5, v6, v7, v8, X, H, hS, hl⟩ := x
  obtain ⟨_, _, _, _, _, ⟨k1, k2, x1, x2, ne⟩, lt, z0⟩ := X.zone
  exact ⟨F, ms, h, S, fr, v5, v6, v7, v8, X.keep hs, H.same hs (by omega) (by simp), hS, hl⟩
theorem turned {text sh : ByteArray} {n m e : Int} (hL : Runs Tryz.prog exec_Exec_Load.id #[rp A.xb, .string text, .int .i64 9] w (fun v w' => v = .tuple #[.int .i64 n, .int .i64 m, .int .i64 e] ∧ XX W w' A ∧ Runs Tryz.prog exec_Exec_Show.id #[rp A.xb] w' (fun v2 w2 => v2 = .string sh ∧ Same [] w'.heap.size w' w2))) :
    Runs Tryz.prog execlaw_Turned.id #[rp A.xb, .string text, .int .i64 n, .int .i64 m, .int .i64 e, .string sh] w (fun v w' => v = .bool true ∧ XX W w' A) := by
  refine execlaw_Turned.enter _ _ _ _ _ _ _ _ _ ?_
  unfold execlaw_Turned.V
  refine RunsQ.post hL ?_
  rintro v w8 ⟨rfl, x8, hs⟩
  refine ⟨_, _, _, rfl, RunsQ.post hs ?_⟩
  rintro v w13 ⟨rfl, S13⟩
  refine ⟨_, rfl, cond_true' (by simp) (cond_true' (by simp) (cond_true' (by simp) ⟨by simp, x8.keep S13⟩))⟩
theorem show_bare {h : HS} (h1 : h.n = 0) (h2 : h.left = 0) (h3 : h.tr = []) : h.show = [98, 111, 117, 110, 100, 32, 116, 97, 112, 101, 32, 116, 114, 97, 99, 101] := by
  unfold HS.show
  rw [h1, h2, h3]; rfl
abbrev bare18 : ByteArray := ⟨#[45, 32, 98, 111, 117, 110, 100, 32, 116, 97, 112, 101, 32, 116, 114, 97, 99, 101]⟩
theorem bind_left (h : HS) (kk : Nat → Nat) : ∀ i, (bindH h kk i).left = h.left ∧ (bindH h kk i).tr = h.tr ∧ (bindH h kk i).rows = h.rows ∧ (bindH h kk i).tape = h.tape ∧ (bindH h kk i).head = h.head
  | 0 => ⟨rfl, rfl, rfl, rfl, rfl⟩
  | i + 1 => bind_left h kk i
/-- A text whose settling fails. -/
theorem refusedT (x : XX W w A) {s : ByteArray} {P : PM} {fs : List FF} (T : Taken s P fs) {kk : Nat → Nat} {nb : Nat} (hk : ∀ i, i < nb → nameK (P.im i).nm (kk i)) (hnb : nb = P.nIm ∨ (nb < P.nIm ∧ (P.im nb).nm = nNone)) {n m e : Int} (he : e ≠ 0) (hst : ∀ s : M.MS, (settleP P nb s).1 = n ∧ (settleP P nb s).2.1 = m ∧ (settleP P nb s).2.2.1 = e) :
    Runs Tryz.prog exec_Exec_Load.id #[rp A.xb, .string s, .int .i64 9] w (fun v w' => v = .tuple #[.int .i64 n, .int .i64 m, .int .i64 e] ∧ XX W w' A ∧ Runs Tryz.prog exec_Exec_Show.id #[rp A.xb] w' (fun v2 w2 => v2 = .string bare18 ∧ Same [] w'.heap.size w' w2)) := by
  obtain ⟨F, ms, h, S, fr, v5, v6, v7, v8, X, H, hS, hl⟩ := x
  obtain ⟨e1, e2, e3⟩ := hst ms
  refine Load_spec X H T 9 hk hnb (fun _ w' F' X' E' _ => ?_) (fun q => absurd (e3.symm.trans q) he) (fun q => absurd (e3.symm.trans q) he)
  rw [e1, e2, e3]
  have hl' : (bindH h.cleared kk nb).cleared.left = 0 := by
    show (bindH h.cleared kk nb).left = 0
    rw [(bind_left h.cleared kk nb).1]; exact hl
  refine ⟨rfl, ⟨F', _, _, S, fr, _, _, _, _, X', E', hS, hl'⟩, RunsQ.post (xShow_no X' E') ?_⟩
  rintro v w2 ⟨rfl, S2⟩
  refine ⟨?_, S2⟩
  rw [show_bare (h := (bindH h.cleared kk nb).cleared) rfl hl' rfl]; rfl
theorem no0 {G : Nat → Prop} : ∀ i, i < 0 → G i := fun i hi => absurd hi (Nat.not_lt_zero i)
theorem tu1 (x : XX W w A) : Runs Tryz.prog execlaw_Turned.id #[rp A.xb, .string tSegData, .int .i64 1, .int .i64 1, .int .i64 31, .string bare18] w (fun v w' => v = .bool true ∧ XX W w' A) := turned (refusedT x tk1 (kk := fun _ => 0) (nb := 0) no0 (.inl (by kernel_rfl)) (by decide) st1)
theorem tu2 (x : XX W w A) : Runs Tryz.prog execlaw_Turned.id #[rp A.xb, .string tSegElem, .int .i64 0, .int .i64 0, .int .i64 31, .string bare18] w (fun v w' => v = .bool true ∧ XX W w' A) := turned (refusedT x tk2 (kk := fun _ => 0) (nb := 0) no0 (.inl (by kernel_rfl)) (by decide) st2)
theorem tu3 (x : XX W w A) : Runs Tryz.prog execlaw_Turned.id #[rp A.xb, .string tNoLink, .int .i64 1, .int .i64 0, .int .i64 30, .string bare18] w (fun v w' => v = .bool true ∧ XX W w' A) := turned (refusedT x tk3 (kk := fun _ => 2) (nb := 1) (fun i hi => by
  have : i = 0 := by omega
  subst this
  exact .inr (.inl ⟨by kernel_rfl, rfl⟩)) (.inr ⟨by show 1 < (okP tNoLink).nIm; rw [show (okP tNoLink).nIm = 2 by kernel_rfl]; omega, by kernel_rfl⟩) (by decide) st3)
abbrev sh37 : ByteArray := ⟨#[109, 101, 109, 32, 45, 32, 116, 97, 98, 32, 103, 108, 111, 98, 32, 98, 111, 117, 110, 100, 32, 50, 32, 116, 97, 112, 101, 32, 116, 114, 97, 99, 101, 32, 48, 40, 41]⟩
theorem RS.out {E : RE} {c g r : Nat} {w : World} {F : List Nat} {ms : M.MS} {h : HS} {S fr : Nat → Int} (s : RS E c g r w F ms h S fr) : XL E w F ms h S fr := s.x
theorem tu4L (x : XX W w A) : Runs Tryz.prog exec_Exec_Load.id #[rp A.xb, .string tStart, .int .i64 9] w (fun v w' => v = .tuple #[.int .i64 9, .int .i64 0, .int .i64 0] ∧ XX W w' A ∧ Runs Tryz.prog exec_Exec_Show.id #[rp A.xb] w' (fun v2 w2 => v2 = .string sh37 ∧ Same [] w'.heap.size w' w2)) := by
  obtain ⟨F, ms, h, S, fr, v5, v6, v7, v8, X, H, hS, hl⟩ := x
  have e3 := st4 ms
  have es : (okP tStart).start = ((0 : Nat) : Int) := by kernel_rfl
  have en : (okP tStart).nIm = 1 := by kernel_rfl
  refine Load_spec (kk := fun _ => 2) (nb := 1) X H tk4 9 (fun i hi => by
    have : i = 0 := by omega
    subst this
    exact .inr (.inl ⟨by kernel_rfl, rfl⟩)) (.inl (by kernel_rfl)) (fun q => absurd e3 q) (fun _ q => absurd q (by rw [es]; decide)) (fun _ _ w0 I mb cdb fb nbs v7 ga gc w1 F1 x1 _ _ => ?_)
  rw [es, show (if (9 : Int) < 0 then 0 else 9) = (9 : Int) from rfl]
  refine run_enter (sp := 0) x1 (fun c g r w2 s2 => ?_)
  generalize hh : bindH h.cleared (fun _ => 2) 1 = h1 at s2
  have h1n : h1.n = 1 := by rw [← hh]; rfl
  have h1k : h1.k 0 = 2 := by rw [← hh]; rfl
  have h1r : h1.rows = 0 := by rw [← hh]; rfl
  have h1t : h1.tr = [] := by rw [← hh]; rfl
  have h1l : h1.left = 0 := by rw [← hh]; exact hl
  have g0 : fsG (okP tStart) 0 0 = ((0 : Nat) : Int) := by kernel_rfl
  have g5 : fsG (okP tStart) 0 5 = 0 := by kernel_rfl
  have ec : ∀ pg : Int, callH h1 0 0 0 S (fsG (okP tStart) 0 5) pg = (0, 0, h1.row 0 (fun j => (S (0 - 0 + j)).toNat) 0) := fun pg => by
    unfold callH HS.answer
    rw [h1k, if_neg (by decide), if_pos rfl]
  refine enter_imp (k := 0) (np := 0) s2 (by show 0 < (okP tStart).nIm; omega) (by omega) (by omega) g0 (by omega) (by omega) (by show 0 ≤ fsG (okP tStart) 0 5 ∧ fsG (okP tStart) 0 5 ≤ 255; omega) hS (fun q => absurd (by show (callH h1 0 0 0 S (fsG (okP tStart) 0 5) _).2.1 = 0; rw [ec]) q) (fun _ w3 F3 s3 => ?_)
  refine exec_Exec_run.step2 _ _ _ _ _ _ _ _ _ _ _ _ _ _ _ _ _ _ _ _ _ _ ?_
  unfold exec_Exec_run.V2
  refine cond_true' rfl ⟨9, rfl, rfl, ?_⟩
  have x3 := s3.x
  have e5 : (if fsG (okP tStart) 0 5 = 0 then S else upd S (0 - 0) (callH h1 0 0 0 S (fsG (okP tStart) 0 5) (((settleP (okP tStart) 1 ms).2.2.2.n / 64 : Nat) : Int)).1) = S := if_pos g5
  have x3' : XL ⟨W, w0, A, I, mb, cdb, fb, nbs, okP tStart, [], v7, ga, gc⟩ w3 F3 (settleP (okP tStart) 1 ms).2.2.2 (h1.row 0 (fun j => (S (0 - 0 + j)).toNat) 0) S fr := by
    have q := x3
    change XL _ w3 F3 _ (callH h1 0 0 0 S (fsG (okP tStart) 0 5) _).2.2 (if fsG (okP tStart) 0 5 = 0 then S else _) fr at q
    rw [ec, if_pos g5] at q
    exact q
  refine ⟨⟨F3, _, _, S, fr, _, _, _, _, x3'.X, x3'.H, hS, h1l⟩, RunsQ.post (xShow_yes x3'.X x3'.H) ?_⟩
  rintro v w4 ⟨rfl, S4⟩
  refine ⟨?_, S4⟩
  rw [sh4]
  have : (h1.row 0 (fun j => (S (0 - 0 + j)).toNat) 0).show = [98, 111, 117, 110, 100, 32, 50, 32, 116, 97, 112, 101, 32, 116, 114, 97, 99, 101, 32, 48, 40, 41] := by
    show [98, 111, 117, 110, 100] ++ kindsT h1.k h1.n ++ [32, 116, 97, 112, 101] ++ wordsT h1.tape h1.head h1.left ++ [32, 116, 114, 97, 99, 101] ++ (h1.tr ++ [32, 48 + ((0 : Nat) : Int), 40] ++ argT (fun j => (S (0 - 0 + j)).toNat) 0 ++ [41]) = _
    rw [h1n, h1l, h1t]
    show [98, 111, 117, 110, 100] ++ ([] ++ [32, 48 + (h1.k 0 : Int)]) ++ [32, 116, 97, 112, 101] ++ [] ++ [32, 116, 114, 97, 99, 101] ++ ([] ++ [32, 48 + ((0 : Nat) : Int), 40] ++ [] ++ [41]) = _
    rw [h1k]; rfl
  rw [this]; rfl
theorem tu4 (x : XX W w A) : Runs Tryz.prog execlaw_Turned.id #[rp A.xb, .string tStart, .int .i64 9, .int .i64 0, .int .i64 0, .string sh37] w (fun v w' => v = .bool true ∧ XX W w' A) := turned (tu4L x)
theorem tu5L (x : XX W w A) : Runs Tryz.prog exec_Exec_Load.id #[rp A.xb, .string tOrder, .int .i64 9] w (fun v w' => v = .tuple #[.int .i64 9, .int .i64 0, .int .i64 0] ∧ XX W w' A ∧ Runs Tryz.prog exec_Exec_Show.id #[rp A.xb] w' (fun v2 w2 => v2 = .string ((((⟨#[109, 101, 109, 32, 49, 32, 48, 49, 48, 50]⟩ : ByteArray) ++ strOfNums (List.replicate 124 48)) ++ (⟨#[32, 116, 97, 98, 32, 49, 32, 103, 108, 111, 98, 32, 98, 111, 117, 110, 100, 32, 116, 97, 112, 101, 32, 116, 114, 97, 99, 101]⟩ : ByteArray))) ∧ Same [] w'.heap.size w' w2)) := by
  obtain ⟨F, ms, h, S, fr, v5, v6, v7, v8, X, H, hS, hl⟩ := x
  have e3 := st5 ms
  have es : (okP tOrder).start = -1 := by kernel_rfl
  refine Load_spec (kk := fun _ => 0) (nb := 0) X H tk5 9 no0 (.inl (by kernel_rfl)) (fun q => absurd e3 q) (fun _ _ w0 I mb cdb fb nbs v7 ga gc w1 F1 x1 _ _ => ?_) (fun _ q => absurd q (by rw [es]; decide))
  refine ⟨rfl, ⟨F1, _, _, S, fr, _, _, _, _, x1.X, x1.H, hS, hl⟩, RunsQ.post (xShow_yes x1.X x1.H) ?_⟩
  rintro v w4 ⟨rfl, S4⟩
  refine ⟨?_, S4⟩
  rw [sh5, show_bare (h := bindH h.cleared (fun _ => 0) 0) rfl hl rfl]
  rw [show (⟨#[32]⟩ : ByteArray) = strOfNums [32] from rfl, show (⟨#[109, 101, 109, 32, 49, 32, 48, 49, 48, 50]⟩ : ByteArray) = strOfNums [109, 101, 109, 32, 49, 32, 48, 49, 48, 50] from rfl, show (⟨#[32, 116, 97, 98, 32, 49, 32, 103, 108, 111, 98, 32, 98, 111, 117, 110, 100, 32, 116, 97, 112, 101, 32, 116, 114, 97, 99, 101]⟩ : ByteArray) = strOfNums [32, 116, 97, 98, 32, 49, 32, 103, 108, 111, 98, 32, 98, 111, 117, 110, 100, 32, 116, 97, 112, 101, 32, 116, 114, 97, 99, 101] from rfl, ← str_app, ← str_app, ← str_app, ← str_app]
  simp only [List.append_assoc]
  rfl
theorem tu5 (x : XX W w A) : Runs Tryz.prog execlaw_Turned.id #[rp A.xb, .string tOrder, .int .i64 9, .int .i64 0, .int .i64 0, .string ((((⟨#[109, 101, 109, 32, 49, 32, 48, 49, 48, 50]⟩ : ByteArray) ++ strOfNums (List.replicate 124 48)) ++ (⟨#[32, 116, 97, 98, 32, 49, 32, 103, 108, 111, 98, 32, 98, 111, 117, 110, 100, 32, 116, 97, 112, 101, 32, 116, 114, 97, 99, 101]⟩ : ByteArray)))] w (fun v w' => v = .bool true ∧ XX W w' A) := turned (tu5L x)
end
end Go.Proofs.Qxb6500317aGreat
