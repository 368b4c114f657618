/- Walks and lemmas on the program of this seat, used by its statements; each theorem bears its own conditions. -/
import Derived.Test.YteplbljjlbdhaacGreatDoorY47
namespace Go.Proofs.YteplbljjlbdhaacGreatDoor
open Go.RowKit
set_option linter.unusedVariables false
set_option linter.unusedSimpArgs false
set_option linter.unusedSectionVars false
set_option maxHeartbeats 16000000
set_option maxRecDepth 100000
structure Op16 where
 kind:Int
 at0:Int
 n0:Int
 path:List UInt8
 dest:List UInt8
 s:List UInt8
 mask:UInt8
def Op16.cs (o:Op16):Array Value:=#[I o.kind,I o.at0,I o.n0,S o.path,S o.dest,S o.s,B o.mask]
structure Op16.Ok (o:Op16):Prop where
 at1:I64 o.at0
 n1:I64 o.n0
 k1:I64 o.kind
 path1:o.path.length≤1048576
 to1:o.dest.length≤1048576
 s1:o.s.length≤1048576
def changeF (n given:Nat) (E:List Nd) (o:Op16):Int×Nat×List Nd:=
 if o.kind=0 then makeF n given E o.path false else if o.kind=1 then makeF n given E o.path true
 else if o.kind=2 then writeF n given E o.path o.at0 o.s else if o.kind=6 then truncF n given E o.path o.n0
 else if o.kind=7 then renameF n given E o.path o.dest else if o.kind=8 then removeF n given E o.path else (0,given,E)
theorem change_grown {n given:Nat} {E:List Nd} (h:WF given E) (o:Op16):Grown given E (changeF n given E o):=by
 unfold changeF
 split
 ·exact make_grown h _ _
 split
 ·exact make_grown h _ _
 split
 ·exact write_grown h _ _ _
 split
 ·exact trunc_grown h _ _
 split
 ·exact rename_grown h _ _
 split
 ·exact remove_grown h _
 ·exact .refuse h 0
abbrev Fr16:=List Nat×World
abbrev XP:=World→List Nat→Prop
def XOK (mb:Nat) (X:XP):Prop:=∀ (w w':World) (M M':List Nat),X w M→mb∈M→Kept [mb] w w'→(∀ x∈M',x∈M∨(w.heap.size≤x∧x<w'.heap.size))→X w' M'
def CodeP (X1:Int→XP) (w:World) (M:List Nat) (e:Ending) (w':World):Prop:=∃ r:Int,e = .returned (I r)∧X1 r w' M∧w.heap.size≤w'.heap.size∧∃ T,(∀ x∈M,x∉T)∧Kept T w w'
def JX (X:XP) (w:World) (n mb given2:Nat) (E2:List Nd) (ob:Nat) (cs:Array Value) (M0:Fr16):Prop:=
 ∃ v M,((∀ x∈M0.1,x∈M)∧∀ x∈M0.1,x≠mb→∀ o,M0.2.heap[x]? = some o→w.heap[x]? = some o)∧X w M∧Df w mb n given2 v E2 M∧ob∈M∧w.heap[ob]? = some (.cells cs 31 (0,0))∧ob≠mb
section
variable {w:World} {n mb given2:Nat} {E2:List Nd} {ob:Nat} {cs:Array Value} {M0:Fr16}
theorem JX.same {X:XP} {w':World} (h:JX X w n mb given2 E2 ob cs M0) (hX:XOK mb X) (k:Kept [] w w'):JX X w' n mb given2 E2 ob cs M0:=by
 obtain⟨v,M,h1,h2,h3,h4,h5,h6⟩:=h
 exact ⟨v,M,⟨h1.1,fun x hx hm o ho=>k.at (h1.2 x hx hm o ho) (by simp)⟩,hX w w' M M h2 h3.2.1 (k.mono (by simp)) (fun x hx=>.inl hx),h3.kept k (by simp),h4,k.at h5 (by simp),h6⟩
theorem jx_code {X0:XP} {X1:Int→XP} {f:Nat} {a:Array Value} (h:JX X0 w n mb given2 E2 ob cs M0) (c:∀ M,X0 w M→Calls Tryz.prog f a w (CodeP X1 w M)) :
  Calls Tryz.prog f a w fun e w'=>∃ r:Int,e = .returned (I r)∧JX (X1 r) w' n mb given2 E2 ob cs M0:=by
 obtain⟨v,M,h1,h2,h3,h4,h5,h6⟩:=h
 refine (c M h2).mono ?_
 rintro e w' ⟨r,rfl,hl,_,T,hT,k⟩
 exact ⟨r,rfl,v,M,⟨h1.1,fun x hx hm o ho=>k.at (h1.2 x hx hm o ho) (hT _ (h1.1 x hx))⟩,hl,h3.kept k hT,h4,k.at h5 (hT _ h4),h6⟩
theorem jx_doc {X:XP} {f:Nat} {a:Array Value} {R:Int×Nat×List Nd} (h:JX X w n mb given2 E2 ob cs M0) (hX:XOK mb X) (c:∀ v,DF w mb n given2 v E2→Calls Tryz.prog f a w (RDP w mb n v R)) (g:WF given2 E2→Grown given2 E2 R) (hg:given2+1≤16777000) (hl:E2.length+1≤900) :
  Calls Tryz.prog f a w fun e w'=>e = .returned (I R.1)∧JX X w' n mb R.2.1 R.2.2 ob cs M0:=by
 obtain⟨v,M,h1,h2,h3,h4,h5,h6⟩:=h
 refine (c v h3.1).mono ?_
 rintro e w' ⟨rfl,⟨v',hf,hown⟩,k⟩
 have g':=g h3.1.wf
 have hM':∀ x∈M++v'.ownBlock.toList,x∈M∨(w.heap.size≤x∧x<w'.heap.size):=fun x hx=>by
  rcases List.mem_append.1 hx with hx | hx
  ·exact .inl hx
  ·have hq:v'.ownBlock=some x:=by simpa using hx
   rcases hown x hq with h7 | h7
   ·exact .inl (h3.2.2 x h7)
   ·exact .inr h7
 refine ⟨rfl,v',M++v'.ownBlock.toList,⟨fun x hx=>List.mem_append_left _ (h1.1 x hx),fun x hx hm o ho=>k.at (h1.2 x hx hm o ho) (by simpa using hm)⟩,hX w w' M _ h2 h3.2.1 k hM',⟨⟨hf,by have:=g'.few;omega,by have:=g'.gv;omega,g'.wf,h3.1.eight,h3.1.big,fun q hq=>?_⟩,List.mem_append_left _ h3.2.1,fun q hq=>List.mem_append_right _ (by rw[hq];simp)⟩,List.mem_append_left _ h4,k.at h5 (by simpa using h6),h6⟩
 have hmb:=h3.1.lt
 rcases hown q hq with h7 | ⟨h7,h8⟩
 ·exact h3.1.own q h7
 ·omega
theorem JX.cells {X:XP} (h:JX X w n mb given2 E2 ob cs M0) (i:Nat) (hi:i<cs.size):w.cell? ⟨ob,i,none⟩=some cs[i]:=by
 obtain⟨v,M,h1,h2,h3,h4,h5,h6⟩:=h
 rw[cell_at h5]
 simp [hi]
end
def ChX (X1:Int→XP) (n mb given2:Nat) (E2:List Nd) (M0:Fr16) (ob:Nat) (o:Op16) (e:Ending) (w':World):Prop:=
 ∃ r:Int,e = .returned (.tuple #[I r,I (changeF n given2 E2 o).1])∧JX (X1 r) w' n mb (changeF n given2 E2 o).2.1 (changeF n given2 E2 o).2.2 ob o.cs M0
section
variable {n ff mb given2:Nat} {E2:List Nd} {M0:Fr16} {X0:XP} {X1:Int→XP}
theorem change_make (hX0:XOK mb X0) (hX1:∀ r,XOK mb (X1 r)) (w:World) (o:Op16) (ok:o.Ok) (hk:o.kind=0) (ob:Nat) (hob:w.heap.size=ob) (h:JX X0 (w.alloc (.cells o.cs 31)) n mb given2 E2 ob o.cs M0) (hc:∀ W M,X0 W M→Calls Tryz.prog 18 #[Ptr ff,S o.path] W (CodeP X1 W M)) (hg2:given2+1≤16777000) (hl:E2.length+1≤900) :
  Calls Tryz.prog 8 #[Ptr ff,Ptr mb,.agg o.cs] w (ChX X1 n mb given2 E2 M0 ob o):=by
 unfold ChX
 have e2:changeF n given2 E2 o=makeF n given2 E2 o.path false:=by unfold changeF;rw[if_pos hk]
 rw[e2]
 have hp1:=ok.path1
 have hp2:=ok.to1
 have hp3:=ok.s1
 have HC:Hid (∀ W g3 E3,JX X0 W n mb g3 E3 ob o.cs M0→Calls Tryz.prog 18 #[Ptr ff,S o.path] W fun e w'=>∃ r:Int,e = .returned (I r)∧JX (X1 r) w' n mb g3 E3 ob o.cs M0):=Lib.hid (fun W g3 E3 h=>jx_code h (fun M hm=>hc W M hm))
 have HDX:Hid (∀ X,XOK mb X→∀ W,JX X W n mb given2 E2 ob o.cs M0→Calls Tryz.prog 19 #[Ptr mb,S o.path,.bool false] W fun e w'=>e = .returned (I (makeF n given2 E2 o.path false).1)∧JX X w' n mb (makeF n given2 E2 o.path false).2.1 (makeF n given2 E2 o.path false).2.2 ob o.cs M0):=Lib.hid (fun X hX W h=>jx_doc h hX (fun v hD=>rmake_any W mb n given2 v E2 hD o.path hp1 false) (fun hw=>make_grown hw o.path false) hg2 hl)
 have HD0:=Lib.hid (HDX.out X0 hX0)
 have HD1:=Lib.hid (fun r=>HDX.out (X1 r) (hX1 r))
 clear HDX hc
 have HJS:=Lib.hid (fun W W' g3 E3 (h:JX X0 W n mb g3 E3 ob o.cs M0) (k:Kept [] W W')=>h.same hX0 k)
 obtain⟨R2,hR2⟩:∃ R2,makeF n given2 E2 o.path false=R2:=⟨_,rfl⟩
 rw[hR2] at HD0 HD1 ⊢
 clear hR2 e2 hX0 hX1
 obtain⟨kd,at0,n0,p,t,s,mk⟩:=o
 have hk:kd=0:=hk
 subst hk
 unfold Op16.cs at *
 simp only at *
 obtain⟨W,hW⟩:∃ W,w.alloc (.cells #[I 0,I at0,I n0,S p,S t,S s,B mk] 31)=W:=⟨_,rfl⟩
 rw[hW] at h
 have c0:=h.cells 0 (by simp)
 have c3:=h.cells 3 (by simp)
 simp only[List.getElem_toArray,List.getElem_cons_zero,List.getElem_cons_succ] at c0 c3
 have H:=Lib.hid h
 clear h ok hp1 hp2 hp3
 go_enter Tryz.func8,Tryz.ntmps8
 go_upto_region 3 with (simp only[hW,hob];done)
 have hj0:=HJS.out _ _ _ _ H.out ((Kept.refl [] W).drew)
 go_region_law (first
  | (go_simp;go_at_call 18;(with_reducible refine (HC.out _ _ _ (by assumption)).mono ?_);rintro e w2 ⟨r,rfl,hj⟩;have x3:=hj.cells 3 (by simp);simp only[List.getElem_toArray,List.getElem_cons_zero,List.getElem_cons_succ] at x3)
  | (go_simp;go_at_call 19;(with_reducible refine (HD0.out _ (by assumption)).mono ?_);rintro e w3 ⟨rfl,hj⟩;have x3:=hj.cells 3 (by simp);simp only[List.getElem_toArray,List.getElem_cons_zero,List.getElem_cons_succ] at x3)
  | (go_simp;go_at_call 19;(with_reducible refine (HD1.out _ _ (by assumption)).mono ?_);rintro e w3 ⟨rfl,hj⟩;have x3:=hj.cells 3 (by simp);simp only[List.getElem_toArray,List.getElem_cons_zero,List.getElem_cons_succ] at x3))
 all_goals
  go_wp2
  go_ret2
  exact ⟨_,rfl,by assumption⟩
end
section
variable {n ff mb given2:Nat} {E2:List Nd} {M0:Fr16} {X0:XP} {X1:Int→XP}
theorem change_makeDir (hX0:XOK mb X0) (hX1:∀ r,XOK mb (X1 r)) (w:World) (o:Op16) (ok:o.Ok) (hk:o.kind=1) (ob:Nat) (hob:w.heap.size=ob) (h:JX X0 (w.alloc (.cells o.cs 31)) n mb given2 E2 ob o.cs M0) (hc:∀ W M,X0 W M→Calls Tryz.prog 20 #[Ptr ff,S o.path] W (CodeP X1 W M)) (hg2:given2+1≤16777000) (hl:E2.length+1≤900) :
  Calls Tryz.prog 8 #[Ptr ff,Ptr mb,.agg o.cs] w (ChX X1 n mb given2 E2 M0 ob o):=by
 unfold ChX
 have e2:changeF n given2 E2 o=makeF n given2 E2 o.path true:=by unfold changeF;rw[if_neg (by rw[hk];decide)];rw[if_pos hk]
 rw[e2]
 have hp1:=ok.path1
 have hp2:=ok.to1
 have hp3:=ok.s1
 have HC:Hid (∀ W g3 E3,JX X0 W n mb g3 E3 ob o.cs M0→Calls Tryz.prog 20 #[Ptr ff,S o.path] W fun e w'=>∃ r:Int,e = .returned (I r)∧JX (X1 r) w' n mb g3 E3 ob o.cs M0):=Lib.hid (fun W g3 E3 h=>jx_code h (fun M hm=>hc W M hm))
 have HDX:Hid (∀ X,XOK mb X→∀ W,JX X W n mb given2 E2 ob o.cs M0→Calls Tryz.prog 19 #[Ptr mb,S o.path,.bool true] W fun e w'=>e = .returned (I (makeF n given2 E2 o.path true).1)∧JX X w' n mb (makeF n given2 E2 o.path true).2.1 (makeF n given2 E2 o.path true).2.2 ob o.cs M0):=Lib.hid (fun X hX W h=>jx_doc h hX (fun v hD=>rmake_any W mb n given2 v E2 hD o.path hp1 true) (fun hw=>make_grown hw o.path true) hg2 hl)
 have HD0:=Lib.hid (HDX.out X0 hX0)
 have HD1:=Lib.hid (fun r=>HDX.out (X1 r) (hX1 r))
 clear HDX hc
 have HJS:=Lib.hid (fun W W' g3 E3 (h:JX X0 W n mb g3 E3 ob o.cs M0) (k:Kept [] W W')=>h.same hX0 k)
 obtain⟨R2,hR2⟩:∃ R2,makeF n given2 E2 o.path true=R2:=⟨_,rfl⟩
 rw[hR2] at HD0 HD1 ⊢
 clear hR2 e2 hX0 hX1
 obtain⟨kd,at0,n0,p,t,s,mk⟩:=o
 have hk:kd=1:=hk
 subst hk
 unfold Op16.cs at *
 simp only at *
 obtain⟨W,hW⟩:∃ W,w.alloc (.cells #[I 1,I at0,I n0,S p,S t,S s,B mk] 31)=W:=⟨_,rfl⟩
 rw[hW] at h
 have c0:=h.cells 0 (by simp)
 have c3:=h.cells 3 (by simp)
 simp only[List.getElem_toArray,List.getElem_cons_zero,List.getElem_cons_succ] at c0 c3
 have H:=Lib.hid h
 clear h ok hp1 hp2 hp3
 go_enter Tryz.func8,Tryz.ntmps8
 go_upto_region 5 with (simp only[hW,hob];done)
 have hj0:=HJS.out _ _ _ _ H.out ((Kept.refl [] W).drew)
 go_region_law (first
  | (go_simp;go_at_call 20;(with_reducible refine (HC.out _ _ _ (by assumption)).mono ?_);rintro e w2 ⟨r,rfl,hj⟩;have x3:=hj.cells 3 (by simp);simp only[List.getElem_toArray,List.getElem_cons_zero,List.getElem_cons_succ] at x3)
  | (go_simp;go_at_call 19;(with_reducible refine (HD0.out _ (by assumption)).mono ?_);rintro e w3 ⟨rfl,hj⟩;have x3:=hj.cells 3 (by simp);simp only[List.getElem_toArray,List.getElem_cons_zero,List.getElem_cons_succ] at x3)
  | (go_simp;go_at_call 19;(with_reducible refine (HD1.out _ _ (by assumption)).mono ?_);rintro e w3 ⟨rfl,hj⟩;have x3:=hj.cells 3 (by simp);simp only[List.getElem_toArray,List.getElem_cons_zero,List.getElem_cons_succ] at x3))
 all_goals
  go_wp2
  go_ret2
  exact ⟨_,rfl,by assumption⟩
end
section
variable {n ff mb given2:Nat} {E2:List Nd} {M0:Fr16} {X0:XP} {X1:Int→XP}
theorem change_write (hX0:XOK mb X0) (hX1:∀ r,XOK mb (X1 r)) (w:World) (o:Op16) (ok:o.Ok) (hk:o.kind=2) (ob:Nat) (hob:w.heap.size=ob) (h:JX X0 (w.alloc (.cells o.cs 31)) n mb given2 E2 ob o.cs M0) (hc:∀ W M,X0 W M→Calls Tryz.prog 21 #[Ptr ff,S o.path,I o.at0,S o.s] W (CodeP X1 W M)) (hg2:given2+1≤16777000) (hl:E2.length+1≤900) :
  Calls Tryz.prog 8 #[Ptr ff,Ptr mb,.agg o.cs] w (ChX X1 n mb given2 E2 M0 ob o):=by
 unfold ChX
 have e2:changeF n given2 E2 o=writeF n given2 E2 o.path o.at0 o.s:=by unfold changeF;rw[if_neg (by rw[hk];decide)];rw[if_neg (by rw[hk];decide)];rw[if_pos hk]
 rw[e2]
 have hp1:=ok.path1
 have hp2:=ok.to1
 have hp3:=ok.s1
 have HC:Hid (∀ W g3 E3,JX X0 W n mb g3 E3 ob o.cs M0→Calls Tryz.prog 21 #[Ptr ff,S o.path,I o.at0,S o.s] W fun e w'=>∃ r:Int,e = .returned (I r)∧JX (X1 r) w' n mb g3 E3 ob o.cs M0):=Lib.hid (fun W g3 E3 h=>jx_code h (fun M hm=>hc W M hm))
 have HDX:Hid (∀ X,XOK mb X→∀ W,JX X W n mb given2 E2 ob o.cs M0→Calls Tryz.prog 22 #[Ptr mb,S o.path,I o.at0,S o.s] W fun e w'=>e = .returned (I (writeF n given2 E2 o.path o.at0 o.s).1)∧JX X w' n mb (writeF n given2 E2 o.path o.at0 o.s).2.1 (writeF n given2 E2 o.path o.at0 o.s).2.2 ob o.cs M0):=Lib.hid (fun X hX W h=>jx_doc h hX (fun v hD=>rwrite_any W mb n given2 v E2 hD o.path hp1 o.at0 ok.at1 o.s (by omega)) (fun hw=>write_grown hw o.path o.at0 o.s) hg2 hl)
 have HD0:=Lib.hid (HDX.out X0 hX0)
 have HD1:=Lib.hid (fun r=>HDX.out (X1 r) (hX1 r))
 clear HDX hc
 have HJS:=Lib.hid (fun W W' g3 E3 (h:JX X0 W n mb g3 E3 ob o.cs M0) (k:Kept [] W W')=>h.same hX0 k)
 obtain⟨R2,hR2⟩:∃ R2,writeF n given2 E2 o.path o.at0 o.s=R2:=⟨_,rfl⟩
 rw[hR2] at HD0 HD1 ⊢
 clear hR2 e2 hX0 hX1
 obtain⟨kd,at0,n0,p,t,s,mk⟩:=o
 have hk:kd=2:=hk
 subst hk
 unfold Op16.cs at *
 simp only at *
 obtain⟨W,hW⟩:∃ W,w.alloc (.cells #[I 2,I at0,I n0,S p,S t,S s,B mk] 31)=W:=⟨_,rfl⟩
 rw[hW] at h
 have c0:=h.cells 0 (by simp)
 have c1:=h.cells 1 (by simp)
 have c3:=h.cells 3 (by simp)
 have c5:=h.cells 5 (by simp)
 simp only[List.getElem_toArray,List.getElem_cons_zero,List.getElem_cons_succ] at c0 c1 c3 c5
 have H:=Lib.hid h
 clear h ok hp1 hp2 hp3
 go_enter Tryz.func8,Tryz.ntmps8
 go_upto_region 7 with (simp only[hW,hob];done)
 have hj0:=HJS.out _ _ _ _ H.out ((Kept.refl [] W).drew)
 have HS:Hid (∀ X W g3 E3,JX X W n mb g3 E3 ob #[I 2,I at0,I n0,S p,S t,S s,B mk] M0→W.cell? ⟨ob,1,none⟩=some (I at0)∧W.cell? ⟨ob,3,none⟩=some (S p)∧W.cell? ⟨ob,5,none⟩=some (S s)):=Lib.hid (fun X W g3 E3 hj=>by
  have x1:=hj.cells 1 (by simp);have x3:=hj.cells 3 (by simp);have x5:=hj.cells 5 (by simp)
  simp only[List.getElem_toArray,List.getElem_cons_zero,List.getElem_cons_succ] at x1 x3 x5
  exact ⟨x1,x3,x5⟩)
 go_region_held3 (fun w'=>w'.cell? ⟨ob,1,none⟩=some (I at0)∧w'.cell? ⟨ob,3,none⟩=some (S p)∧w'.cell? ⟨ob,5,none⟩=some (S s)) (first | exact HS.out _ _ _ _ hj0 | exact HS.out _ _ _ _ hj1 | exact HS.out _ _ _ _ hj2 | exact HS.out _ _ _ _ hj3 | assumption) (first
  | (go_at_call 21;(with_reducible refine (HC.out _ _ _ (by assumption)).mono ?_);rintro e w2 ⟨r,rfl,hj1⟩)
  | (go_at_call 22;(with_reducible refine (HD0.out _ (by assumption)).mono ?_);rintro e w3 ⟨rfl,hj2⟩)
  | (go_at_call 22;(with_reducible refine (HD1.out _ _ (by assumption)).mono ?_);rintro e w3 ⟨rfl,hj3⟩))
 all_goals
  go_wp2
  go_ret2
  exact ⟨_,rfl,by assumption⟩
end
section
variable {n ff mb given2:Nat} {E2:List Nd} {M0:Fr16} {X0:XP} {X1:Int→XP}
theorem change_trunc (hX0:XOK mb X0) (hX1:∀ r,XOK mb (X1 r)) (w:World) (o:Op16) (ok:o.Ok) (hk:o.kind=6) (ob:Nat) (hob:w.heap.size=ob) (h:JX X0 (w.alloc (.cells o.cs 31)) n mb given2 E2 ob o.cs M0) (hc:∀ W M,X0 W M→Calls Tryz.prog 23 #[Ptr ff,S o.path,I o.n0] W (CodeP X1 W M)) (hg2:given2+1≤16777000) (hl:E2.length+1≤900) :
  Calls Tryz.prog 8 #[Ptr ff,Ptr mb,.agg o.cs] w (ChX X1 n mb given2 E2 M0 ob o):=by
 unfold ChX
 have e2:changeF n given2 E2 o=truncF n given2 E2 o.path o.n0:=by unfold changeF;rw[if_neg (by rw[hk];decide)];rw[if_neg (by rw[hk];decide)];rw[if_neg (by rw[hk];decide)];rw[if_pos hk]
 rw[e2]
 have hp1:=ok.path1
 have hp2:=ok.to1
 have hp3:=ok.s1
 have HC:Hid (∀ W g3 E3,JX X0 W n mb g3 E3 ob o.cs M0→Calls Tryz.prog 23 #[Ptr ff,S o.path,I o.n0] W fun e w'=>∃ r:Int,e = .returned (I r)∧JX (X1 r) w' n mb g3 E3 ob o.cs M0):=Lib.hid (fun W g3 E3 h=>jx_code h (fun M hm=>hc W M hm))
 have HDX:Hid (∀ X,XOK mb X→∀ W,JX X W n mb given2 E2 ob o.cs M0→Calls Tryz.prog 24 #[Ptr mb,S o.path,I o.n0] W fun e w'=>e = .returned (I (truncF n given2 E2 o.path o.n0).1)∧JX X w' n mb (truncF n given2 E2 o.path o.n0).2.1 (truncF n given2 E2 o.path o.n0).2.2 ob o.cs M0):=Lib.hid (fun X hX W h=>jx_doc h hX (fun v hD=>rtrunc_any W mb n given2 v E2 hD o.path hp1 o.n0 ok.n1) (fun hw=>trunc_grown hw o.path o.n0) hg2 hl)
 have HD0:=Lib.hid (HDX.out X0 hX0)
 have HD1:=Lib.hid (fun r=>HDX.out (X1 r) (hX1 r))
 clear HDX hc
 have HJS:=Lib.hid (fun W W' g3 E3 (h:JX X0 W n mb g3 E3 ob o.cs M0) (k:Kept [] W W')=>h.same hX0 k)
 obtain⟨R2,hR2⟩:∃ R2,truncF n given2 E2 o.path o.n0=R2:=⟨_,rfl⟩
 rw[hR2] at HD0 HD1 ⊢
 clear hR2 e2 hX0 hX1
 obtain⟨kd,at0,n0,p,t,s,mk⟩:=o
 have hk:kd=6:=hk
 subst hk
 unfold Op16.cs at *
 simp only at *
 obtain⟨W,hW⟩:∃ W,w.alloc (.cells #[I 6,I at0,I n0,S p,S t,S s,B mk] 31)=W:=⟨_,rfl⟩
 rw[hW] at h
 have c0:=h.cells 0 (by simp)
 have c2:=h.cells 2 (by simp)
 have c3:=h.cells 3 (by simp)
 simp only[List.getElem_toArray,List.getElem_cons_zero,List.getElem_cons_succ] at c0 c2 c3
 have H:=Lib.hid h
 clear h ok hp1 hp2 hp3
 go_enter Tryz.func8,Tryz.ntmps8
 go_upto_region 9 with (simp only[hW,hob];done)
 have hj0:=HJS.out _ _ _ _ H.out ((Kept.refl [] W).drew)
 have HS:Hid (∀ X W g3 E3,JX X W n mb g3 E3 ob #[I 6,I at0,I n0,S p,S t,S s,B mk] M0→W.cell? ⟨ob,2,none⟩=some (I n0)∧W.cell? ⟨ob,3,none⟩=some (S p)):=Lib.hid (fun X W g3 E3 hj=>by
  have x2:=hj.cells 2 (by simp);have x3:=hj.cells 3 (by simp)
  simp only[List.getElem_toArray,List.getElem_cons_zero,List.getElem_cons_succ] at x2 x3
  exact ⟨x2,x3⟩)
 go_region_held3 (fun w'=>w'.cell? ⟨ob,2,none⟩=some (I n0)∧w'.cell? ⟨ob,3,none⟩=some (S p)) (first | exact HS.out _ _ _ _ hj0 | exact HS.out _ _ _ _ hj1 | exact HS.out _ _ _ _ hj2 | exact HS.out _ _ _ _ hj3 | assumption) (first
  | (go_at_call 23;(with_reducible refine (HC.out _ _ _ (by assumption)).mono ?_);rintro e w2 ⟨r,rfl,hj1⟩)
  | (go_at_call 24;(with_reducible refine (HD0.out _ (by assumption)).mono ?_);rintro e w3 ⟨rfl,hj2⟩)
  | (go_at_call 24;(with_reducible refine (HD1.out _ _ (by assumption)).mono ?_);rintro e w3 ⟨rfl,hj3⟩))
 all_goals
  go_wp2
  go_ret2
  exact ⟨_,rfl,by assumption⟩
end
section
variable {n ff mb given2:Nat} {E2:List Nd} {M0:Fr16} {X0:XP} {X1:Int→XP}
theorem change_rename (hX0:XOK mb X0) (hX1:∀ r,XOK mb (X1 r)) (w:World) (o:Op16) (ok:o.Ok) (hk:o.kind=7) (ob:Nat) (hob:w.heap.size=ob) (h:JX X0 (w.alloc (.cells o.cs 31)) n mb given2 E2 ob o.cs M0) (hc:∀ W M,X0 W M→Calls Tryz.prog 25 #[Ptr ff,S o.path,S o.dest] W (CodeP X1 W M)) (hg2:given2+1≤16777000) (hl:E2.length+1≤900) :
  Calls Tryz.prog 8 #[Ptr ff,Ptr mb,.agg o.cs] w (ChX X1 n mb given2 E2 M0 ob o):=by
 unfold ChX
 have e2:changeF n given2 E2 o=renameF n given2 E2 o.path o.dest:=by unfold changeF;rw[if_neg (by rw[hk];decide)];rw[if_neg (by rw[hk];decide)];rw[if_neg (by rw[hk];decide)];rw[if_neg (by rw[hk];decide)];rw[if_pos hk]
 rw[e2]
 have hp1:=ok.path1
 have hp2:=ok.to1
 have hp3:=ok.s1
 have HC:Hid (∀ W g3 E3,JX X0 W n mb g3 E3 ob o.cs M0→Calls Tryz.prog 25 #[Ptr ff,S o.path,S o.dest] W fun e w'=>∃ r:Int,e = .returned (I r)∧JX (X1 r) w' n mb g3 E3 ob o.cs M0):=Lib.hid (fun W g3 E3 h=>jx_code h (fun M hm=>hc W M hm))
 have HDX:Hid (∀ X,XOK mb X→∀ W,JX X W n mb given2 E2 ob o.cs M0→Calls Tryz.prog 26 #[Ptr mb,S o.path,S o.dest] W fun e w'=>e = .returned (I (renameF n given2 E2 o.path o.dest).1)∧JX X w' n mb (renameF n given2 E2 o.path o.dest).2.1 (renameF n given2 E2 o.path o.dest).2.2 ob o.cs M0):=Lib.hid (fun X hX W h=>jx_doc h hX (fun v hD=>rrename_any W mb n given2 v E2 hD o.path o.dest hp1 hp2) (fun hw=>rename_grown hw o.path o.dest) hg2 hl)
 have HD0:=Lib.hid (HDX.out X0 hX0)
 have HD1:=Lib.hid (fun r=>HDX.out (X1 r) (hX1 r))
 clear HDX hc
 have HJS:=Lib.hid (fun W W' g3 E3 (h:JX X0 W n mb g3 E3 ob o.cs M0) (k:Kept [] W W')=>h.same hX0 k)
 obtain⟨R2,hR2⟩:∃ R2,renameF n given2 E2 o.path o.dest=R2:=⟨_,rfl⟩
 rw[hR2] at HD0 HD1 ⊢
 clear hR2 e2 hX0 hX1
 obtain⟨kd,at0,n0,p,t,s,mk⟩:=o
 have hk:kd=7:=hk
 subst hk
 unfold Op16.cs at *
 simp only at *
 obtain⟨W,hW⟩:∃ W,w.alloc (.cells #[I 7,I at0,I n0,S p,S t,S s,B mk] 31)=W:=⟨_,rfl⟩
 rw[hW] at h
 have c0:=h.cells 0 (by simp)
 have c3:=h.cells 3 (by simp)
 have c4:=h.cells 4 (by simp)
 simp only[List.getElem_toArray,List.getElem_cons_zero,List.getElem_cons_succ] at c0 c3 c4
 have H:=Lib.hid h
 clear h ok hp1 hp2 hp3
 go_enter Tryz.func8,Tryz.ntmps8
 go_upto_region 11 with (simp only[hW,hob];done)
 have hj0:=HJS.out _ _ _ _ H.out ((Kept.refl [] W).drew)
 have HS:Hid (∀ X W g3 E3,JX X W n mb g3 E3 ob #[I 7,I at0,I n0,S p,S t,S s,B mk] M0→W.cell? ⟨ob,3,none⟩=some (S p)∧W.cell? ⟨ob,4,none⟩=some (S t)):=Lib.hid (fun X W g3 E3 hj=>by
  have x3:=hj.cells 3 (by simp);have x4:=hj.cells 4 (by simp)
  simp only[List.getElem_toArray,List.getElem_cons_zero,List.getElem_cons_succ] at x3 x4
  exact ⟨x3,x4⟩)
 go_region_held3 (fun w'=>w'.cell? ⟨ob,3,none⟩=some (S p)∧w'.cell? ⟨ob,4,none⟩=some (S t)) (first | exact HS.out _ _ _ _ hj0 | exact HS.out _ _ _ _ hj1 | exact HS.out _ _ _ _ hj2 | exact HS.out _ _ _ _ hj3 | assumption) (first
  | (go_at_call 25;(with_reducible refine (HC.out _ _ _ (by assumption)).mono ?_);rintro e w2 ⟨r,rfl,hj1⟩)
  | (go_at_call 26;(with_reducible refine (HD0.out _ (by assumption)).mono ?_);rintro e w3 ⟨rfl,hj2⟩)
  | (go_at_call 26;(with_reducible refine (HD1.out _ _ (by assumption)).mono ?_);rintro e w3 ⟨rfl,hj3⟩))
 all_goals
  go_wp2
  go_ret2
  exact ⟨_,rfl,by assumption⟩
end
section
variable {n ff mb given2:Nat} {E2:List Nd} {M0:Fr16} {X0:XP} {X1:Int→XP}
theorem change_remove (hX0:XOK mb X0) (hX1:∀ r,XOK mb (X1 r)) (w:World) (o:Op16) (ok:o.Ok) (hk:o.kind=8) (ob:Nat) (hob:w.heap.size=ob) (h:JX X0 (w.alloc (.cells o.cs 31)) n mb given2 E2 ob o.cs M0) (hc:∀ W M,X0 W M→Calls Tryz.prog 27 #[Ptr ff,S o.path] W (CodeP X1 W M)) (hg2:given2+1≤16777000) (hl:E2.length+1≤900) :
  Calls Tryz.prog 8 #[Ptr ff,Ptr mb,.agg o.cs] w (ChX X1 n mb given2 E2 M0 ob o):=by
 unfold ChX
 have e2:changeF n given2 E2 o=removeF n given2 E2 o.path:=by unfold changeF;rw[if_neg (by rw[hk];decide)];rw[if_neg (by rw[hk];decide)];rw[if_neg (by rw[hk];decide)];rw[if_neg (by rw[hk];decide)];rw[if_neg (by rw[hk];decide)];rw[if_pos hk]
 rw[e2]
 have hp1:=ok.path1
 have hp2:=ok.to1
 have hp3:=ok.s1
 have HC:Hid (∀ W g3 E3,JX X0 W n mb g3 E3 ob o.cs M0→Calls Tryz.prog 27 #[Ptr ff,S o.path] W fun e w'=>∃ r:Int,e = .returned (I r)∧JX (X1 r) w' n mb g3 E3 ob o.cs M0):=Lib.hid (fun W g3 E3 h=>jx_code h (fun M hm=>hc W M hm))
 have HDX:Hid (∀ X,XOK mb X→∀ W,JX X W n mb given2 E2 ob o.cs M0→Calls Tryz.prog 28 #[Ptr mb,S o.path] W fun e w'=>e = .returned (I (removeF n given2 E2 o.path).1)∧JX X w' n mb (removeF n given2 E2 o.path).2.1 (removeF n given2 E2 o.path).2.2 ob o.cs M0):=Lib.hid (fun X hX W h=>jx_doc h hX (fun v hD=>rremove_any W mb n given2 v E2 hD o.path hp1) (fun hw=>remove_grown hw o.path) hg2 hl)
 have HD0:=Lib.hid (HDX.out X0 hX0)
 have HD1:=Lib.hid (fun r=>HDX.out (X1 r) (hX1 r))
 clear HDX hc
 have HJS:=Lib.hid (fun W W' g3 E3 (h:JX X0 W n mb g3 E3 ob o.cs M0) (k:Kept [] W W')=>h.same hX0 k)
 obtain⟨R2,hR2⟩:∃ R2,removeF n given2 E2 o.path=R2:=⟨_,rfl⟩
 rw[hR2] at HD0 HD1 ⊢
 clear hR2 e2 hX0 hX1
 obtain⟨kd,at0,n0,p,t,s,mk⟩:=o
 have hk:kd=8:=hk
 subst hk
 unfold Op16.cs at *
 simp only at *
 obtain⟨W,hW⟩:∃ W,w.alloc (.cells #[I 8,I at0,I n0,S p,S t,S s,B mk] 31)=W:=⟨_,rfl⟩
 rw[hW] at h
 have c0:=h.cells 0 (by simp)
 have c3:=h.cells 3 (by simp)
 simp only[List.getElem_toArray,List.getElem_cons_zero,List.getElem_cons_succ] at c0 c3
 have H:=Lib.hid h
 clear h ok hp1 hp2 hp3
 go_enter Tryz.func8,Tryz.ntmps8
 go_upto_region 13 with (simp only[hW,hob];done)
 have hj0:=HJS.out _ _ _ _ H.out ((Kept.refl [] W).drew)
 go_region_law (first
  | (go_simp;go_at_call 27;(with_reducible refine (HC.out _ _ _ (by assumption)).mono ?_);rintro e w2 ⟨r,rfl,hj⟩;have x3:=hj.cells 3 (by simp);simp only[List.getElem_toArray,List.getElem_cons_zero,List.getElem_cons_succ] at x3)
  | (go_simp;go_at_call 28;(with_reducible refine (HD0.out _ (by assumption)).mono ?_);rintro e w3 ⟨rfl,hj⟩;have x3:=hj.cells 3 (by simp);simp only[List.getElem_toArray,List.getElem_cons_zero,List.getElem_cons_succ] at x3)
  | (go_simp;go_at_call 28;(with_reducible refine (HD1.out _ _ (by assumption)).mono ?_);rintro e w3 ⟨rfl,hj⟩;have x3:=hj.cells 3 (by simp);simp only[List.getElem_toArray,List.getElem_cons_zero,List.getElem_cons_succ] at x3))
 all_goals
  go_wp2
  go_ret2
  exact ⟨_,rfl,by assumption⟩
end
theorem rcopy16_any (w:World) (mb n given:Nat) (v:Value) (E:List Nd) (h:DF w mb n given v E) (hq:∀ q,v.ownBlock=some q→q<w.heap.size) :
  Calls Tryz.prog 5 #[Ptr mb] w fun e w'=>∃ mb2:Nat,e = .returned (Ptr mb2)∧w.heap.size≤mb2∧mb2<w'.heap.size∧DF w' mb2 n given v E∧Kept [] w w':=by
 obtain⟨⟨hb,hp⟩,x1,x2,x3,x4,x5,x6⟩:=h
 have c0:=cell_at hb 0
 have c1:=cell_at hb 1
 have c2:=cell_at hb 2
 simp only[List.getElem?_toArray,List.getElem?_cons_zero,List.getElem?_cons_succ] at c0 c1 c2
 obtain⟨p,c,g,rfl,hp1,hp2,hp3⟩:=hp
 have H:=Lib.hid (And.intro hp1 (And.intro hp2 hp3))
 have HX:=Lib.hid (And.intro x1 (And.intro x2 (And.intro x3 (And.intro x4 (And.intro x5 hq)))))
 clear hb hp1 hp2 hp3 x1 x2 x3 x4 x5 x6 hq
 obtain⟨L,hL⟩:∃ L,E.length=L:=⟨_,rfl⟩
 rw[hL] at c2
 have HL:=Lib.hid hL
 have hnew:=heap_new w (.cells #[I n,I given,.slice p L c] 51)
 have hkk:=(Kept.refl [] w).alloc (.cells #[I n,I given,.slice p L c] 51)
 have HN:=Lib.hid (And.intro hnew hkk)
 clear hnew hkk hL
 go_enter Tryz.func5,Tryz.ntmps5
 go_wp2_with (fail)
 all_goals
  go_ret
  obtain⟨hnew,hkk⟩:=HN.out
  obtain⟨x1,x2,x3,x4,x5,hq⟩:=HX.out
  refine ⟨w.heap.size,rfl,Nat.le_refl _,by simp,⟨⟨?_,?_⟩,x1,x2,x3,x4,x5,fun q hq2=>?_⟩,hkk⟩
  ·rw[HL.out];exact hnew
  ·exact ⟨p,c,g,by rw[HL.out],H.out.1,H.out.2.1,fun i hi=>⟨hkk.cellOf (H.out.2.2 i hi).1,hkk.cellOf (H.out.2.2 i hi).2.1,hkk.cellOf (H.out.2.2 i hi).2.2⟩⟩
  ·have:=hq q (by simpa using hq2);omega
section
variable {n ff mb given2:Nat} {E2:List Nd} {M0:Fr16} {X0:XP} {X1:Int→XP}
theorem change_none (w:World) (o:Op16) (hk:o.kind≠0∧o.kind≠1∧o.kind≠2∧o.kind≠6∧o.kind≠7∧o.kind≠8) (ob:Nat) (hob:w.heap.size=ob) (h:JX (X1 0) (w.alloc (.cells o.cs 31)) n mb given2 E2 ob o.cs M0) :
  Calls Tryz.prog 8 #[Ptr ff,Ptr mb,.agg o.cs] w (ChX X1 n mb given2 E2 M0 ob o):=by
 unfold ChX
 obtain⟨k0,k1,k2,k6,k7,k8⟩:=hk
 have e2:changeF n given2 E2 o=(0,given2,E2):=by unfold changeF;rw[if_neg k0,if_neg k1,if_neg k2,if_neg k6,if_neg k7,if_neg k8]
 rw[e2]
 clear e2
 obtain⟨kd,at0,n0,p,t,s,mk⟩:=o
 simp only at k0 k1 k2 k6 k7 k8
 have b0:(kd==0)=false:=by simpa using k0
 have b1:(kd==1)=false:=by simpa using k1
 have b2:(kd==2)=false:=by simpa using k2
 have b6:(kd==6)=false:=by simpa using k6
 have b7:(kd==7)=false:=by simpa using k7
 have b8:(kd==8)=false:=by simpa using k8
 unfold Op16.cs at *
 simp only at *
 obtain⟨W,hW⟩:∃ W,w.alloc (.cells #[I kd,I at0,I n0,S p,S t,S s,B mk] 31)=W:=⟨_,rfl⟩
 rw[hW] at h
 have c0:=h.cells 0 (by simp)
 simp only[List.getElem_toArray,List.getElem_cons_zero,List.getElem_cons_succ] at c0
 have H:=Lib.hid h
 clear h k0 k1 k2 k6 k7 k8
 go_enter Tryz.func8,Tryz.ntmps8
 go_wp2_with (simp only[hW,hob];done)
 go_ret2
 exact ⟨_,rfl,H.out⟩
structure CodeC (ff:Nat) (o:Op16) (X0:XP) (X1:Int→XP):Prop where
 make:o.kind=0→∀ W M,X0 W M→Calls Tryz.prog 18 #[Ptr ff,S o.path] W (CodeP X1 W M)
 makeDir:o.kind=1→∀ W M,X0 W M→Calls Tryz.prog 20 #[Ptr ff,S o.path] W (CodeP X1 W M)
 write:o.kind=2→∀ W M,X0 W M→Calls Tryz.prog 21 #[Ptr ff,S o.path,I o.at0,S o.s] W (CodeP X1 W M)
 trunc:o.kind=6→∀ W M,X0 W M→Calls Tryz.prog 23 #[Ptr ff,S o.path,I o.n0] W (CodeP X1 W M)
 rename:o.kind=7→∀ W M,X0 W M→Calls Tryz.prog 25 #[Ptr ff,S o.path,S o.dest] W (CodeP X1 W M)
 remove:o.kind=8→∀ W M,X0 W M→Calls Tryz.prog 27 #[Ptr ff,S o.path] W (CodeP X1 W M)
 none:(o.kind≠0∧o.kind≠1∧o.kind≠2∧o.kind≠6∧o.kind≠7∧o.kind≠8)→∀ W M,X0 W M→X1 0 W M
theorem change_arms (hX0:XOK mb X0) (hX1:∀ r,XOK mb (X1 r)) (w:World) (o:Op16) (ok:o.Ok) (ob:Nat) (hob:w.heap.size=ob) (h:JX X0 (w.alloc (.cells o.cs 31)) n mb given2 E2 ob o.cs M0) (hc:CodeC ff o X0 X1) (hg2:given2+1≤16777000) (hl:E2.length+1≤900) :
  Calls Tryz.prog 8 #[Ptr ff,Ptr mb,.agg o.cs] w (ChX X1 n mb given2 E2 M0 ob o):=by
 by_cases h0:o.kind=0
 ·exact change_make hX0 hX1 w o ok h0 ob hob h (hc.make h0) hg2 hl
 by_cases h1:o.kind=1
 ·exact change_makeDir hX0 hX1 w o ok h1 ob hob h (hc.makeDir h1) hg2 hl
 by_cases h2:o.kind=2
 ·exact change_write hX0 hX1 w o ok h2 ob hob h (hc.write h2) hg2 hl
 by_cases h6:o.kind=6
 ·exact change_trunc hX0 hX1 w o ok h6 ob hob h (hc.trunc h6) hg2 hl
 by_cases h7:o.kind=7
 ·exact change_rename hX0 hX1 w o ok h7 ob hob h (hc.rename h7) hg2 hl
 by_cases h8:o.kind=8
 ·exact change_remove hX0 hX1 w o ok h8 ob hob h (hc.remove h8) hg2 hl
 obtain⟨v,M,g1,g2,g3⟩:=h
 exact change_none w o ⟨h0,h1,h2,h6,h7,h8⟩ ob hob ⟨v,M,g1,hc.none ⟨h0,h1,h2,h6,h7,h8⟩ _ _ g2,g3⟩
theorem change_gen (hX0:XOK mb X0) (hX1:∀ r,XOK mb (X1 r)) {M:List Nat} {v:Value} (w:World) (h:X0 w M) (hD:Df w mb n given2 v E2 M) (o:Op16) (ok:o.Ok) (hc:CodeC ff o X0 X1) (hg2:given2+1≤16777000) (hl:E2.length+1≤900) :
  Calls Tryz.prog 8 #[Ptr ff,Ptr mb,.agg o.cs] w fun e w'=>∃ r:Int,e = .returned (.tuple #[I r,I (changeF n given2 E2 o).1])∧∃ v' M',(∀ x∈M,x∈M')∧X1 r w' M'∧Df w' mb n (changeF n given2 E2 o).2.1 v' (changeF n given2 E2 o).2.2 M'∧∀ x∈M,x≠mb→∀ b,w.heap[x]? = some b→w'.heap[x]? = some b:=by
 have k:=(Kept.refl [] w).alloc (.cells o.cs 31)
 have hnew:=heap_new w (.cells o.cs 31)
 have hlt:=lt_of_block hnew
 have hm:=hX0 w (w.alloc (.cells o.cs 31)) M (w.heap.size::M) h hD.2.1 (k.mono (by simp)) (fun x hx=>by
  rcases List.mem_cons.1 hx with rfl | hx
  ·exact .inr ⟨Nat.le_refl _,hlt⟩
  ·exact .inl hx)
 have hmb:=hD.1.lt
 have hDk:=hD.kept k (by simp)
 refine (change_arms (M0:=(M,w)) hX0 hX1 w o ok w.heap.size rfl ⟨v,w.heap.size::M,⟨fun x hx=>List.mem_cons_of_mem _ hx,fun x hx _ b hb=>k.at hb (by simp)⟩,hm,⟨hDk.1,List.mem_cons_of_mem _ hDk.2.1,fun q hq=>List.mem_cons_of_mem _ (hDk.2.2 q hq)⟩,List.mem_cons_self,hnew,by omega⟩ hc hg2 hl).mono ?_
 rintro e w' ⟨r,rfl,v',M',h1,h2,h3,_⟩
 exact ⟨r,rfl,v',M',h1.1,h2,h3,fun x hx hne b hb=>h1.2 x hx hne b hb⟩
end
theorem Df.beside {w w':World} {mb n given:Nat} {v:Value} {E:List Nd} {M M':List Nat} (h:Df w mb n given v E M) (k:∀ x∈M,x=mb∨v.ownBlock=some x→∀ b,w.heap[x]? = some b→w'.heap[x]? = some b) (hM:∀ x∈M,x∈M'):Df w' mb n given v E M':=by
 obtain⟨⟨⟨a1,p,c,b,rfl,a2,a3,a4⟩,b1,b2,b3,b4,b5,b6⟩,c1,c2⟩:=h
 refine ⟨⟨⟨k _ c1 (.inl rfl) _ a1,p,c,b,rfl,a2,a3,fun i hi=>?_⟩,b1,b2,b3,b4,b5,b6⟩,hM _ c1,fun q hq=>hM _ (c2 q hq)⟩
 have e:=a3 (by intro h;rw[h] at hi;simp at hi)
 subst e
 have hc:∀ (o:Nat) (u:Value),w.cell? ⟨b,o,none⟩=some u→w'.cell? ⟨b,o,none⟩=some u:=fun o u h=>by
  cases hb:w.heap[b]? with
  | none=>unfold World.cell? at h;simp only[hb] at h;cases h
  | some x =>
   have:=k b (c2 b rfl) (.inr rfl) x hb
   unfold World.cell? at h ⊢
   simp only[hb,this] at h ⊢
   exact h
 exact ⟨hc _ _ (a4 i hi).1,hc _ _ (a4 i hi).2.1,hc _ _ (a4 i hi).2.2⟩
def OpsAt16 (w:World) (v:Value) (l:List Op16):Prop:=∃ p c b o,v = .slice p l.length c∧(l≠[]→p=some ⟨b,o,none⟩) ∧
 (∀ (i:Nat) (hi:i<l.length),w.cell? ⟨b,o+i*7,none⟩=some (I l[i].kind)∧w.cell? ⟨b,o+i*7+1,none⟩=some (I l[i].at0)∧w.cell? ⟨b,o+i*7+2,none⟩=some (I l[i].n0)∧w.cell? ⟨b,o+i*7+3,none⟩=some (S l[i].path)∧w.cell? ⟨b,o+i*7+4,none⟩=some (S l[i].dest)∧w.cell? ⟨b,o+i*7+5,none⟩=some (S l[i].s)∧w.cell? ⟨b,o+i*7+6,none⟩=some (B l[i].mask)) ∧
 (∀ x∈l,x.Ok)∧l.length≤4611686018427387904∧l.length≤c
section
open Go.Lib Go.ChangeShapes Go.WideShapes Go.Deep Go.Joins Go.ChangeAt
variable {H:Type} {enc:TypeId×Value→H} {w:World} {base:Nat} {spare:Nat→Bool} {held:Bool}
theorem open_byte1 {fuel:Nat} {u:Value} {x:DataW H×List MemPlace} (h:DataW.trod enc Tryz.prog w base spare held fuel 5 [u]=some x):∃ c:UInt8,u=B c:=by
 obtain⟨n,e,_,hw⟩:=DataW.trod_int Tryz.underlying5 h
 have hw':(Lit.int .u8 n).wf=true:=by first | exact hw.1 | exact hw | simpa using hw
 have h1:IntKind.u8.min=0:=rfl
 have h2:IntKind.u8.max=255:=rfl
 simp [Lit.wf] at hw'
 refine ⟨UInt8.ofNat n.toNat,?_⟩
 have e':u = .int .u8 n:=by simpa using e
 rw[e']
 show Value.int .u8 n = .int .u8 _
 congr 1
 rw[UInt8.toNat_ofNat']
 omega
theorem bulk_agg {H:Type} (l:List (DataW H)):Rows.uptoBulk (.agg l)=Rows.uptoBulkAll l+1:=by simp [Rows.uptoBulk]
theorem open_script16 {fuel:Nat} {v:Value} {x:DataW H×List MemPlace} (h:DataW.trod enc Tryz.prog w base spare held fuel 22 [v]=some x) (hb:Rows.uptoBulk x.1≤1048576) :
  ∃ l,OpsAt16 w v l:=by
 rcases open_slice_fields Tryz.underlying22 Tryz.underlying31 (by kernel_rfl) (by kernel_rfl) h with ⟨hcs,-⟩ | ⟨a,len,cap,m,D,Pl,hcs,hbb,hl,hm,hmm,hx,hi⟩
 ·simp at hcs;subst hcs
  exact ⟨[],none,0,0,0,rfl,fun h=>absurd rfl h,fun i hi=>by simp at hi,fun x hx=>(by cases hx),by simp,by simp⟩
 ·simp at hcs;subst hcs
  have hlm:len≤m:=by rw[hmm];split <;> omega
  rw[hx] at hb
  simp only[bulk_slice] at hb
  have hlen:len≤1048576:=by
   have:=bulk_len ((List.range len).map D)
   simp only[List.length_map,List.length_range] at this
   omega
  have key:∀ i,i<len→∃ e:Op16,w.cell? (a.add (i*7))=some (I e.kind)∧w.cell? (a.add (i*7+1))=some (I e.at0)∧w.cell? (a.add (i*7+2))=some (I e.n0)∧w.cell? (a.add (i*7+3))=some (S e.path)∧w.cell? (a.add (i*7+4))=some (S e.dest)∧w.cell? (a.add (i*7+5))=some (S e.s)∧w.cell? (a.add (i*7+6))=some (B e.mask)∧e.Ok:=by
   intro i hil
   obtain⟨ys,n,hD,-,hyl,hf⟩:=hi i (by omega)
   obtain⟨u0,y0,e0,f0,t0⟩:=hf 0 _ rfl
   obtain⟨u1,y1,e1,f1,t1⟩:=hf 1 _ rfl
   obtain⟨u2,y2,e2,f2,t2⟩:=hf 2 _ rfl
   obtain⟨u3,y3,e3,f3,t3⟩:=hf 3 _ rfl
   obtain⟨u4,y4,e4,f4,t4⟩:=hf 4 _ rfl
   obtain⟨u5,y5,e5,f5,t5⟩:=hf 5 _ rfl
   obtain⟨u6,y6,e6,f6,t6⟩:=hf 6 _ rfl
   obtain⟨n0,rfl,q0⟩:=open_int1 t0
   obtain⟨n1,rfl,q1⟩:=open_int1 t1
   obtain⟨n2,rfl,q2⟩:=open_int1 t2
   obtain⟨s3,rfl,q3⟩:=open_str1 t3
   obtain⟨s4,rfl,q4⟩:=open_str1 t4
   obtain⟨s5,rfl,q5⟩:=open_str1 t5
   obtain⟨c6,rfl⟩:=open_byte1 t6
   have hbi:Rows.uptoBulk (D i)≤1048576:=by
    have:=bulk_part (d:=D i) (l:=(List.range len).map D) (List.mem_map.2 ⟨i,List.mem_range.2 hil,rfl⟩)
    omega
   rw[hD,bulk_agg] at hbi
   have hs:∀ (y:DataW H×List MemPlace) (k:Nat) (s:List UInt8),ys[k]? = some y→y.1 = .lit (.string s)→s.length≤1048576:=fun y k s f q=>by
    have:=bulk_part (d:=y.1) (l:=ys.map (·.1)) (List.mem_map.2 ⟨y,List.mem_of_getElem? f,rfl⟩)
    rw[q,bulk_str] at this
    omega
   exact ⟨⟨n0,n1,n2,s3,s4,s5,c6⟩,e0,e1,e2,e3,e4,e5,e6,⟨⟨int_lo q1,int_hi q1⟩,⟨int_lo q2,int_hi q2⟩,⟨int_lo q0,int_hi q0⟩,hs y3 3 s3 f3 q3,hs y4 4 s4 f4 q4,hs y5 5 s5 f5 q5⟩⟩
  haveI:Inhabited Op16:=⟨⟨0,0,0,[],[],[],0⟩⟩
  obtain⟨f,hf⟩:=choose_lt key
  refine ⟨(List.range len).map f,?_⟩
  obtain⟨b,off,spot⟩:=a
  refine ⟨some ⟨b,off,spot⟩,cap,b,off,by simp,fun hne=>?_,fun i hi=>?_,fun x hx=>?_,by simp;omega,by simpa using hl⟩
  ·have hpos:0<len:=by
    rcases Nat.eq_zero_or_pos len with h0 | h0
    ·subst h0;simp at hne
    ·exact h0
   have hspot:spot=none:=by simpa [Addr.add] using World.cell?_spot (hf 0 hpos).1
   rw[hspot]
  ·have hil:i<len:=by simpa using hi
   have hspot:spot=none:=by simpa [Addr.add] using World.cell?_spot (hf 0 (by omega)).1
   subst hspot
   obtain⟨g0,g1,g2,g3,g4,g5,g6,_⟩:=hf i hil
   simp only[List.getElem_map,List.getElem_range]
   rw[Addr.add_lit] at g0 g1 g2 g3 g4 g5 g6
   exact ⟨g0,g1,g2,g3,g4,g5,g6⟩
  ·obtain⟨i,hi,rfl⟩:=List.mem_map.1 hx
   exact (hf i (List.mem_range.1 hi)).2.2.2.2.2.2.2
theorem two_cells {cs:Array Value} (h:cs.size=2):∃ c0 c1,cs=#[c0,c1]:=by
 obtain⟨l⟩:=cs
 match l,h with
 | [c0,c1],_=>exact ⟨c0,c1,rfl⟩
theorem open_world16 {r:Reach} {b0:Nat} {v:Value} {d:DataW H} {p:List MemPlace} (hv:Value.okWide Tryz.prog w r b0 24 v) (h:DataW.Trod enc Tryz.prog w base spare held 24 v d p) (hb:Rows.uptoBulk d≤1048576) :
  ∃ (m:Int) (sv:Value) (l:List Op16),v = .agg #[I m,sv]∧OpsAt16 w sv l:=by
 obtain⟨cs,ys,n,rfl,hsz,hd,hyl,hf⟩:=open_agg_any Tryz.underlying24 (by kernel_rfl) (by kernel_rfl) hv h
 obtain⟨c0,c1,rfl⟩:=two_cells hsz
 obtain⟨u0,y0,e0,f0,t0⟩:=hf 0 _ rfl
 obtain⟨u1,y1,e1,f1,t1⟩:=hf 1 _ rfl
 simp at e0 e1
 subst e0 e1
 obtain⟨m,rfl,_⟩:=open_int1 t0
 subst hd
 rw[bulk_agg] at hb
 have hy:=bulk_part (d:=y1.1) (l:=ys.map (·.1)) (List.mem_map.2 ⟨y1,List.mem_of_getElem? f1,rfl⟩)
 obtain⟨l,hl⟩:=open_script16 t1 (by omega)
 exact ⟨m,_,l,rfl,hl⟩
end
end Go.Proofs.YteplbljjlbdhaacGreatDoor
