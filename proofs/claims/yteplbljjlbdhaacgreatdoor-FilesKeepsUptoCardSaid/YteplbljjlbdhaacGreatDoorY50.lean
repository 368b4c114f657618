/- Walks and lemmas on the program of this seat, used by its statements; each theorem bears its own conditions. -/
import Derived.Test.YteplbljjlbdhaacGreatDoorY48
import Derived.Test.YteplbljjlbdhaacGreatDoorY49
namespace Go.Proofs.YteplbljjlbdhaacGreatDoor
open Go.RowKit
set_option linter.unusedVariables false
set_option linter.unusedSimpArgs false
set_option linter.unusedSectionVars false
set_option maxHeartbeats 16000000
set_option maxRecDepth 100000
section
variable {g1 given:Nat} {E1 E:List Nd}
theorem objF_ext {given:Nat} (hk:∀ q,kids E1 q=kids E q) (hb:∀ k,byNum E1 k=byNum E k) (k:Int):objF given E1 k=objF given E k:=by
 have hr:∀ x,rowX E1 x=rowX E x:=fun x=>by unfold rowX;rw[hk]
 unfold objF
 rw[hk,hb]
 simp only[hr]
theorem holds_parts (h:holdsF g1 E1 given E=true):(kids E1 []).map (·.1)=(kids E []).map (·.1)∧∀ x∈E,chk16 E1 E x=true:=by
 unfold holdsF at h
 simp only[Bool.and_eq_true,decide_eq_true_eq] at h
 exact ⟨h.1,List.all_eq_true.1 h.2.2⟩
theorem chk_parts {x:Nd} (h:chk16 E1 E x=true):dirF E1 (pathT x.path)=(0,x.dir)∧(x.dir=true→listF E1 (pathT x.path)=(0,(kids E x.path).map (·.1)))∧(x.dir=false→readF E1 (pathT x.path) 0 5000=(x.data,0)):=by
 unfold chk16 at h
 simp only[Bool.and_eq_true,decide_eq_true_eq] at h
 refine ⟨h.1,fun hd=>?_,fun hd=>?_⟩
 ·have:=h.2
  rw[hd,if_pos rfl] at this
  simpa using this
 ·have:=h.2
  rw[hd,if_neg (by decide)] at this
  simpa using this
theorem holds_ent (h:holdsF g1 E1 given E=true) (hw:WF given E) {x:Nd} (hx:x∈E):(ent E1 x.path).isSome=true:=by
 have:=(chk_parts ((holds_parts h).2 x hx)).1
 unfold dirF at this
 rw[path_T (hw.pv hx)] at this
 simp only at this
 split at this
 ·next hf=>exact absurd (congrArg Prod.fst this) (by simpa using hf)
 ·next hf=>exact find_ent E1 x.path [] (by simpa using hf) (hw.form x hx).1
theorem holds_in (h:holdsF g1 E1 given E=true) (hw1:WF g1 E1) (hw:WF given E) {x:Nd} (hx:x∈E1) (hp:x.path.dropLast=[]∨∃ y∈E,y.path=x.path.dropLast∧y.dir=true∧∃ z∈E1,z.path=y.path∧z.dir=true):(ent E x.path).isSome=true:=by
 have hp0:=(hw1.form x hx).1
 have hmem:x.path.getLastD []∈(kids E1 x.path.dropLast).map (·.1):=List.mem_map.2 ⟨(x.path.getLastD [],x.num),mem_kids.2 ⟨x,hx,(last_snoc hp0).symm,rfl⟩,rfl⟩
 have key:∀ a,(kids E1 a).map (·.1)=(kids E a).map (·.1)→a=x.path.dropLast→(ent E x.path).isSome=true:=fun a e ea=>by
  rw[← ea,e] at hmem
  obtain⟨q,hq,e2⟩:=List.mem_map.1 hmem
  obtain⟨z,hz,h1,_⟩:=mem_kids.1 hq
  replace e2:q.1=x.path.getLastD []:=e2
  rw[e2,ea,last_snoc hp0] at h1
  rw[← h1,ent_of hw.paths hz]
  rfl
 rcases hp with h0 | ⟨y,hy,h1,h2,z,hz,h3,h4⟩
 ·exact key [] (holds_parts h).1 h0.symm
 ·have h5:=(chk_parts ((holds_parts h).2 y hy)).2.1 h2
  rw[← h3,listF_in hw1 hz h4] at h5
  rw[h3] at h5
  exact key y.path (congrArg Prod.snd h5) h1
theorem set_same (hw:WF given E) {x:Nd} (hx:x∈E) (k:Int):objF given (setE E x) k=objF given E k:=by
 refine objF_ext (fun q=>kids_set hw hx rfl rfl rfl q) (fun k=>?_) k
 rw[byNum_set hw hx rfl rfl rfl]
 split
 ·next h=>rw[h];exact (byNum_of hw.nums hx).symm
 ·rfl
theorem set_holds (hw:WF given E) {x:Nd} (hx:x∈E) (hxd:x.dir=false) {D:List UInt8} (hw1:WF given (setE E ⟨x.path,x.num,x.dir,D⟩)) (h:holdsF given (setE E ⟨x.path,x.num,x.dir,D⟩) given E=true) (k:Int):objF given (setE E ⟨x.path,x.num,x.dir,D⟩) k=objF given E k:=by
 have h1:=(chk_parts ((holds_parts h).2 x hx)).2.2 hxd
 have h2:=readF_in hw1 (x:=⟨x.path,x.num,x.dir,D⟩) (mem_setE.2 (.inl rfl)) hxd
 replace h2:readF (setE E ⟨x.path,x.num,x.dir,D⟩) (pathT x.path) 0 5000=(D,0):=h2
 rw[h1] at h2
 have e:=congrArg Prod.fst h2
 replace e:x.data=D:=e
 rw[← e]
 exact set_same hw hx k
theorem try_cases {n given':Nat} {E':List Nd}:tryF n given E given' E'=(0,given',E')∨tryF n given E given' E'=(166,given,E):=by
 unfold tryF
 split
 ·exact .inl rfl
 ·exact .inr rfl
end
def Apart (given:Nat) (E:List Nd) (R:Int×Nat×List Nd):Prop:=holdsF R.2.1 R.2.2 given E=true→∀ k,objF R.2.1 R.2.2 k=objF given E k
section
variable {n given:Nat} {E:List Nd}
theorem Apart.refuse (r:Int):Apart given E (r,given,E):=fun _ _=>rfl
theorem Apart.try {g':Nat} {E':List Nd} (h:holdsF g' E' given E=true→∀ k,objF g' E' k=objF given E k):Apart given E (tryF n given E g' E'):=by
 rcases try_cases (n:=n) (given:=given) (E:=E) (given':=g') (E':=E') with e | e
 ·rw[e];exact h
 ·rw[e];exact Apart.refuse _
theorem set_apart (h:WF given E) {s:List UInt8} (hf:(fileF E s).1=0) {D:List UInt8} (hD:D.length≤4096):Apart given E (tryF n given E given (setE E ⟨(fileF E s).2.path,(fileF E s).2.num,(fileF E s).2.dir,D⟩)):=by
 have hw1:=set_grown h hf hD
 obtain⟨p,hp,hf0,hxd,hxe,hxE⟩:=file_mem (E:=E) (s:=s) hf
 have hxdir:(fileF E s).2.dir=false:=by rw[← isDirP_of h hxe];exact hxd
 exact .try (set_holds h hxE hxdir hw1)
theorem make_apart (h:WF given E) (s:List UInt8) (dir:Bool):Apart given E (makeF n given E s dir):=by
 unfold makeF
 split
 ·exact .refuse _
 next p hp =>
 obtain⟨-,hpv⟩:=pathT_of hp
 split
 ·exact .refuse _
 next hp0 =>
 split
 ·exact .refuse _
 next hfu =>
 split
 ·exact .refuse _
 next hd =>
 split
 ·exact .refuse _
 next he =>
 split
 ·exact .refuse _
 next hk =>
 have hfu:findF E [] p.dropLast=0:=by simpa using hfu
 have hd:isDirP E p.dropLast=true:=by cases hx:isDirP E p.dropLast with | true=>rfl | false=>exact absurd hx hd
 have he:ent E p=none:=by cases hx:ent E p with | none=>rfl | some x=>rw[hx] at he;exact absurd rfl he
 have:=h.few p.dropLast
 have hw1:=wf_make h hp0 hpv.1 hpv.2 hd he (by omega) dir
 refine .try fun hh=>?_
 have h5:=holds_in (x:=⟨p,given+2,dir,[]⟩) hh hw1 h (by simp) (by
  show p.dropLast=[]∨_
  by_cases h0:p.dropLast=[]
  ·exact .inl h0
  ·right
   obtain⟨y,hy⟩:=Option.isSome_iff_exists.1 (find_ent E p.dropLast [] hfu h0)
   replace hy:ent E p.dropLast=some y:=hy
   obtain⟨hyE,hyp⟩:=ent_mem hy
   have hyd:y.dir=true:=by rw[← isDirP_of h hy];exact hd
   exact ⟨y,hyE,hyp,hyd,y,List.mem_append_left _ hyE,rfl,hyd⟩)
 replace h5:(ent E p).isSome=true:=h5
 rw[he] at h5
 cases h5
theorem write_apart (h:WF given E) (s:List UInt8) (a:Int) (t:List UInt8):Apart given E (writeF n given E s a t):=by
 unfold writeF
 split
 ·exact .refuse _
 next hf =>
 split
 ·exact .refuse _
 next hb =>
 have hf:(fileF E s).1=0:=by simpa using hf
 obtain⟨p,hp,hf0,hxd,hxe,hxE⟩:=file_mem (E:=E) (s:=s) hf
 have h4:=(h.data _ hxE).1
 simp only[not_or] at hb
 obtain⟨b1,b2,b3,b4⟩:=hb
 refine set_apart h hf ?_
 rw[wrB_len _ _ _ (by omega)]
 omega
theorem trunc_apart (h:WF given E) (s:List UInt8) (a:Int):Apart given E (truncF n given E s a):=by
 unfold truncF
 split
 ·exact .refuse _
 next hf =>
 split
 ·exact .refuse _
 next hb =>
 have hf:(fileF E s).1=0:=by simpa using hf
 obtain⟨p,hp,hf0,hxd,hxe,hxE⟩:=file_mem (E:=E) (s:=s) hf
 have h4:=(h.data _ hxE).1
 refine set_apart h hf ?_
 rw[List.length_take]
 omega
theorem remove_apart (h:WF given E) (s:List UInt8):Apart given E (removeF n given E s):=by
 unfold removeF
 split
 ·exact .refuse _
 next p hp =>
 split
 ·exact .refuse _
 next hp0 =>
 split
 ·exact .refuse _
 next hf =>
 split
 ·exact .refuse _
 next hk =>
 have hf:findF E [] p=0:=by simpa using hf
 obtain⟨x,hx⟩:=Option.isSome_iff_exists.1 (find_ent E p [] hf hp0)
 replace hx:ent E p=some x:=hx
 obtain⟨hxE,hxp⟩:=ent_mem hx
 refine .try fun hh=>?_
 obtain⟨y,hy⟩:=Option.isSome_iff_exists.1 (holds_ent hh h hxE)
 obtain⟨hy1,hy2⟩:=ent_mem hy
 exact absurd (hy2.trans hxp) (mem_remE.1 hy1).2
theorem rename_apart (h:WF given E) (s t:List UInt8):Apart given E (renameF n given E s t):=by
 unfold renameF
 split
 ·exact .refuse _
 next p hp =>
 split
 ·exact .refuse _
 next q hq =>
 split
 ·exact .refuse _
 next hp0 =>
 split
 ·exact .refuse _
 next hf =>
 split
 ·exact .refuse _
 next hb =>
 split
 ·exact .refuse _
 next hq0 =>
 split
 ·exact .refuse _
 split
 ·exact .refuse _
 next hd =>
 split
 ·exact .refuse _
 next he =>
 split
 ·exact .refuse _
 next hk =>
 have hf:findF E [] p=0:=by simpa using hf
 obtain⟨x,hx⟩:=Option.isSome_iff_exists.1 (find_ent E p [] hf hp0)
 replace hx:ent E p=some x:=hx
 obtain⟨hxE,hxp⟩:=ent_mem hx
 have hen:ent E q=none:=by cases hx:ent E q with | none=>rfl | some x=>rw[hx] at he;exact absurd rfl he
 refine .try fun hh=>?_
 obtain⟨y,hy⟩:=Option.isSome_iff_exists.1 (holds_ent hh h hxE)
 obtain⟨hy1,hy2⟩:=ent_mem hy
 obtain⟨z,hz,rfl⟩:=List.mem_map.1 hy1
 rw[hxp] at hy2
 replace hy2:renP p q z.path=p:=hy2
 by_cases h1:∃ r,z.path=p++r
 ·obtain⟨r,h1⟩:=h1
  rw[h1,renP_in] at hy2
  exact absurd (hxp.trans hy2.symm) (no_q h hq0 hen x hxE r)
 ·rw[renP_out h1] at hy2
  exact absurd ⟨[],by rw[hy2,List.append_nil]⟩ h1
theorem change_apart (h:WF given E) (o:Op16):Apart given E (changeF n given E o):=by
 unfold changeF
 split
 ·exact make_apart h _ _
 split
 ·exact make_apart h _ _
 split
 ·exact write_apart h _ _ _
 split
 ·exact trunc_apart h _ _
 split
 ·exact rename_apart h _ _
 split
 ·exact remove_apart h _
 ·exact .refuse 0
end
def FS (ff fb sb n d given:Nat) (E:List Nd) (U:List Nat):World→List Nat→Prop:=fun w T=>∃ V,CH w ff fb sb n V d T false given E U
def FD (fb n d g1:Nat) (E1:List Nd) (g2:Nat) (E2:List Nd):World→List Nat→Prop:=fun w T=>∃ V1 V2,(SortedA V1∧sumA wO V1≤quotaF n∧SimV V1 g1 E1)∧(SortedA V2∧sumA wO V2≤quotaF n∧(SimV V2 g1 E1∨SimV V2 g2 E2))∧PF w fb n V1 V2 d T∧8≤n∧n≤255
def LM (w0:World) (U:List Nat) (P:World→List Nat→Prop):XP:=fun w M=>∃ T,P w T∧(∀ x∈T,w0.heap.size≤x∧x<w.heap.size)∧TabsU w U∧(∀ x∈T,x∉U)∧(∀ x∈M,x∉T∧x∉U∧x<w.heap.size∧w0.heap.size≤x)∧Kept [] w0 w
section
variable {w0 w w':World} {U M M':List Nat} {P Q:World→List Nat→Prop}
theorem LM.aside {S:List Nat} (h:LM w0 U P w M) (k:Kept S w w') (hS:∀ x∈S,x∈M) (hP:∀ T,P w T→(∀ x∈S,x∉T)→(∀ x∈S,x∉U)→P w' T) (hM:∀ x∈M',x∈M∨(w.heap.size≤x∧x<w'.heap.size)):LM w0 U P w' M':=by
 obtain⟨T,h1,h2,h3,h4,h5,h6⟩:=h
 have hz:=h6.size
 have hb:=h3.2.1
 refine ⟨T,hP T h1 (fun x hx=>(h5 x (hS x hx)).1) (fun x hx=>(h5 x (hS x hx)).2.1),fun x hx=>⟨(h2 x hx).1,Nat.lt_of_lt_of_le (h2 x hx).2 k.size⟩,h3.kept k (fun x hx=>(h5 x (hS x hx)).2.1),h4,fun x hx=>?_,h6.new k (fun x hx=>(h5 x (hS x hx)).2.2.2)⟩
 rcases hM x hx with h7 | ⟨h7,h8⟩
 ·exact ⟨(h5 x h7).1,(h5 x h7).2.1,Nat.lt_of_lt_of_le (h5 x h7).2.2.1 k.size,(h5 x h7).2.2.2⟩
 ·exact ⟨fun hm=>by have:=(h2 x hm).2;omega,fun hm=>by have:=hb x hm;omega,h8,by omega⟩
theorem LM.old (h:LM w0 U P w M):Kept [] w0 w:=by obtain⟨T,h1,h2,h3,h4,h5,h6⟩:=h;exact h6
theorem LM.tabs (h:LM w0 U P w M):TabsU w U:=by obtain⟨T,h1,h2,h3,h4,h5,h6⟩:=h;exact h3
theorem LM.lt (h:LM w0 U P w M):∀ x∈M,x<w.heap.size:=by obtain⟨T,h1,h2,h3,h4,h5,h6⟩:=h;exact fun x hx=>(h5 x hx).2.2.1
theorem LM.imp (h:LM w0 U P w M) (hi:∀ T,P w T→Q w T):LM w0 U Q w M:=by
 obtain⟨T,h1,h2⟩:=h
 exact ⟨T,hi T h1,h2⟩
theorem LM.parts (h:LM w0 U (fun w T=>P w T∨Q w T) w M):LM w0 U P w M∨LM w0 U Q w M:=by
 obtain⟨T,h1,h2⟩:=h
 rcases h1 with h1 | h1
 ·exact .inl ⟨T,h1,h2⟩
 ·exact .inr ⟨T,h1,h2⟩
theorem LM.turn {A:Type} {f:Nat} {args:Array Value} {QA:A→World→List Nat→Prop} {R:A→Ending→Prop} (h:LM w0 U P w M) (hc:∀ T,P w T→Calls Tryz.prog f args w (fun e w'=>∃ a,R a e∧∃ T',QA a w' T'∧(∀ x∈T',x<w'.heap.size)∧Kept T w w'∧(∀ x∈T',x∈T∨w.heap.size≤x))) :
  Calls Tryz.prog f args w (fun e w'=>∃ a,R a e∧LM w0 U (QA a) w' M∧w.heap.size≤w'.heap.size∧∃ T,(∀ x∈M,x∉T)∧Kept T w w'):=by
 obtain⟨T,h1,h2,h3,h4,h5,h6⟩:=h
 have hb:=h3.2.1
 have hz:=h6.size
 refine (hc T h1).mono ?_
 rintro e w' ⟨a,hR,T',hQ,hlt,k,hfr⟩
 refine ⟨a,hR,⟨T',hQ,fun x hx=>⟨?_,hlt x hx⟩,h3.kept k h4,fun x hx hu=>?_,fun x hx=>⟨fun hm=>?_,(h5 x hx).2.1,Nat.lt_of_lt_of_le (h5 x hx).2.2.1 k.size,(h5 x hx).2.2.2⟩,h6.new k (fun x hx=>(h2 x hx).1)⟩,k.size,T,fun x hx=>(h5 x hx).1,k⟩
 ·rcases hfr x hx with h7 | h7
  ·exact (h2 x h7).1
  ·omega
 ·rcases hfr x hx with h7 | h7
  ·exact h4 x h7 hu
  ·have:=hb x hu;omega
 ·rcases hfr x hm with h7 | h7
  ·exact (h5 x hx).1 h7
  ·have:=(h5 x hx).2.2.1;omega
theorem LM.look {f:Nat} {args:Array Value} {R:Ending→World→Prop} (h:LM w0 U P w M) (hc:∀ T,P w T→Calls Tryz.prog f args w R):Calls Tryz.prog f args w R:=by
 obtain⟨T,h1,_⟩:=h
 exact hc T h1
end
section
variable {w0 w:World} {U M:List Nat} {ff fb sb n d given:Nat} {E:List Nd} {g2:Nat} {E2:List Nd}
theorem fs_aside {w':World} {S:List Nat} (k:Kept S w w') (T:List Nat) (h:FS ff fb sb n d given E U w T) (hT:∀ x∈S,x∉T) (hU:∀ x∈S,x∉U):FS ff fb sb n d given E U w' T:=by
 obtain⟨V,h⟩:=h
 exact ⟨V,h.aside k hT hU⟩
theorem fd_aside {w':World} {S:List Nat} (k:Kept S w w') (T:List Nat) (h:FD fb n d given E g2 E2 w T) (hT:∀ x∈S,x∉T) (hU:∀ x∈S,x∉U):FD fb n d given E g2 E2 w' T:=by
 obtain⟨V1,V2,h1,h2,h3,h4⟩:=h
 exact ⟨V1,V2,h1,h2,h3.kept k hT,h4⟩
theorem fs_ok (mb:Nat):XOK mb (LM w0 U (FS ff fb sb n d given E U)):=fun w w' M M' h hm k hM=>h.aside k (fun x hx=>List.mem_singleton.1 hx ▸ hm) (fun T hT a b=>fs_aside k T hT a b) hM
theorem fd_ok (mb:Nat):XOK mb (LM w0 U (FD fb n d given E g2 E2)):=fun w w' M M' h hm k hM=>h.aside k (fun x hx=>List.mem_singleton.1 hx ▸ hm) (fun T hT a b=>fd_aside (U:=U) k T hT a b) hM
def X1K (w0:World) (U:List Nat) (ff fb sb n d given:Nat) (E:List Nd) (R:Int×Nat×List Nd):Int→XP:=fun r w M=>(r=R.1∧LM w0 U (FS ff fb sb n d R.2.1 R.2.2 U) w M)∨(r=2∧LM w0 U (FD fb n d given E R.2.1 R.2.2) w M)
theorem x1k_ok (mb:Nat) {R:Int×Nat×List Nd} (r:Int):XOK mb (X1K w0 U ff fb sb n d given E R r):=fun w w' M M' h hm k hM=>by
 rcases h with ⟨h1,h2⟩ | ⟨h1,h2⟩
 ·exact .inl ⟨h1,fs_ok mb w w' M M' h2 hm k hM⟩
 ·exact .inr ⟨h1,fd_ok mb w w' M M' h2 hm k hM⟩
theorem lm_op {f:Nat} {a:Array Value} {R:Int×Nat×List Nd} (h:LM w0 U (FS ff fb sb n d given E U) w M) (hd:d≤500000000) (c:∀ V T,CH w ff fb sb n V d T false given E U→Calls Tryz.prog f a w (OpP w fb sb n V d T false given E R)) (g:WF given E→Grown given E R) (hg:given+1≤16777000) :
  Calls Tryz.prog f a w (CodeP (X1K w0 U ff fb sb n (d+2*(n+1)) given E R) w M):=by
 refine (h.turn (A:=Int) (R:=fun r e=>e = .returned (I r)) (QA:=fun r w' T'=>(r=R.1∧FS ff fb sb n (d+2*(n+1)) R.2.1 R.2.2 U w' T')∨(r=2∧FD fb n (d+2*(n+1)) given E R.2.1 R.2.2 w' T')) (fun T hT=>?_)).mono ?_
 ·obtain⟨V,hch⟩:=hT
  have g':=g hch.wf
  have hsm:=hch.st.stk.small
  refine (c V T hch).mono ?_
  rintro e w' ⟨r,T',rfl,hp,hlt,hk,hfr⟩
  refine ⟨r,rfl,T',?_,hlt,hk,hfr⟩
  rcases hp with ⟨rfl,V',hsim,hst⟩ | ⟨rfl,_,V',hs',hq',hsim,hpf⟩
  ·exact .inl ⟨rfl,V',hch.turn hk hst hfr hsim g'.wf (by have:=g'.gv;omega) (by omega)⟩
  ·exact .inr ⟨rfl,V,V',⟨hch.st.sorted,hsm.2.2.1,hch.sim⟩,⟨hs',hq',hsim⟩,hpf,hsm.1,hsm.2.1⟩
 ·rintro e w' ⟨r,rfl,hl,hsz,hT⟩
  refine ⟨r,rfl,?_,hsz,hT⟩
  rcases hl.parts with h1 | h1
  ·obtain⟨T,⟨h2,h3⟩,h4⟩:=h1
   exact .inl ⟨h2,T,h3,h4⟩
  ·obtain⟨T,⟨h2,h3⟩,h4⟩:=h1
   exact .inr ⟨h2,T,h3,h4⟩
theorem lm_code (h1:given+1≤16777000) (hd:d≤400000000) (hn:n≤255) (o:Op16) (ok:o.Ok):CodeC ff o (LM w0 U (FS ff fb sb n d given E U)) (X1K w0 U ff fb sb n (d+2*(n+1)) given E (changeF n given E o)):=by
 have hp1:=ok.path1
 have hp2:=ok.to1
 have hp3:=ok.s1
 obtain⟨R,hR⟩:∃ R,changeF n given E o=R:=⟨_,rfl⟩
 have conv:∀ (R':Int×Nat×List Nd),changeF n given E o=R'→∀ (f:Nat) (a:Array Value) W M,LM w0 U (FS ff fb sb n d given E U) W M→(∀ V T,CH W ff fb sb n V d T false given E U→Calls Tryz.prog f a W (OpP W fb sb n V d T false given E R'))→(WF given E→Grown given E R')→Calls Tryz.prog f a W (CodeP (X1K w0 U ff fb sb n (d+2*(n+1)) given E (changeF n given E o)) W M):=fun R' e f a W M h0 hcall hgr=>by
  rw[e]
  exact lm_op h0 (by omega) hcall hgr h1
 refine ⟨fun hk W M h0=>?_,fun hk W M h0=>?_,fun hk W M h0=>?_,fun hk W M h0=>?_,fun hk W M h0=>?_,fun hk W M h0=>?_,fun hk W M h0=>?_⟩
 ·exact conv _ (by unfold changeF;rw[if_pos hk]) _ _ W M h0 (fun V T hc=>make_any W ff fb sb n V d T false given E U hc (by omega) o.path (by omega)) (fun hw=>make_grown hw o.path false)
 ·exact conv _ (by unfold changeF;rw[if_neg (by rw[hk];decide),if_pos hk]) _ _ W M h0 (fun V T hc=>makeDir_any W ff fb sb n V d T false given E U hc (by omega) o.path (by omega)) (fun hw=>make_grown hw o.path true)
 ·exact conv _ (by unfold changeF;rw[if_neg (by rw[hk];decide),if_neg (by rw[hk];decide),if_pos hk]) _ _ W M h0 (fun V T hc=>fwrite_any W ff fb sb n V d T false given E U hc (by omega) o.path (by omega) o.at0 ok.at1 o.s (by omega)) (fun hw=>write_grown hw o.path o.at0 o.s)
 ·exact conv _ (by unfold changeF;rw[if_neg (by rw[hk];decide),if_neg (by rw[hk];decide),if_neg (by rw[hk];decide),if_pos hk]) _ _ W M h0 (fun V T hc=>ftrunc_any W ff fb sb n V d T false given E U hc (by omega) o.path (by omega) o.n0 ok.n1) (fun hw=>trunc_grown hw o.path o.n0)
 ·exact conv _ (by unfold changeF;rw[if_neg (by rw[hk];decide),if_neg (by rw[hk];decide),if_neg (by rw[hk];decide),if_neg (by rw[hk];decide),if_pos hk]) _ _ W M h0 (fun V T hc=>frename_any W ff fb sb n V d T false given E U hc (by omega) o.path o.dest (by omega) (by omega)) (fun hw=>rename_grown hw o.path o.dest)
 ·exact conv _ (by unfold changeF;rw[if_neg (by rw[hk];decide),if_neg (by rw[hk];decide),if_neg (by rw[hk];decide),if_neg (by rw[hk];decide),if_neg (by rw[hk];decide),if_pos hk]) _ _ W M h0 (fun V T hc=>fremove_any W ff fb sb n V d T false given E U hc (by omega) o.path (by omega)) (fun hw=>remove_grown hw o.path)
 ·have e:changeF n given E o=(0,given,E):=by unfold changeF;rw[if_neg hk.1,if_neg hk.2.1,if_neg hk.2.2.1,if_neg hk.2.2.2.1,if_neg hk.2.2.2.2.1,if_neg hk.2.2.2.2.2]
  rw[e]
  exact .inl ⟨rfl,h0.imp (fun T hT=>by
   obtain⟨V,h1⟩:=hT
   exact ⟨V,h1.st.mono (by omega),h1.cell,h1.sim,h1.wf,h1.gv,h1.tabs,h1.ffU,h1.sep,by omega⟩)⟩
theorem FS.mono {d':Nat} {T:List Nat} (h:FS ff fb sb n d given E U w T) (hd:d≤d') (h6:d'≤600000000):FS ff fb sb n d' given E U w T:=by
 obtain⟨V,h1⟩:=h
 exact ⟨V,h1.st.mono hd,h1.cell,h1.sim,h1.wf,h1.gv,h1.tabs,h1.ffU,h1.sep,h6⟩
theorem FD.mono {d':Nat} {T:List Nat} (h:FD fb n d given E g2 E2 w T) (hd:d≤d'):FD fb n d' given E g2 E2 w T:=by
 obtain⟨V1,V2,h1,h2,h3,h4⟩:=h
 exact ⟨V1,V2,h1,h2,h3.mono hd,h4⟩
theorem stz_of {V:OM} {T:List Nat} (h:STK w fb sb n V d T):STZ w fb sb n V d T false:=by
 obtain⟨bb,cb,pb,lb,mb,kb,v,st,f,e,h1,h2,h3,h4,h5,h6⟩:=h
 exact ⟨bb,cb,pb,lb,mb,kb,v,st,f,e,h1,h2,h3,h4,h5,h6,fun h=>by cases h⟩
theorem lm_arm (h:LM w0 U (FS ff fb sb n d given E U) w M) (N K:Int) (m:UInt8) (hN:N≤9223372036854775807) :
  Calls Tryz.prog 6 #[Ptr fb,I N,I K,B m] w fun e w'=>∃ r:Int,e = .returned (I r)∧LM w0 U (FS ff fb sb n d given E U) w' M∧w.heap.size≤w'.heap.size∧∃ T,(∀ x∈M,x∉T)∧Kept T w w':=by
 refine h.turn (A:=Int) (R:=fun r e=>e = .returned (I r)) (QA:=fun _=>FS ff fb sb n d given E U) (fun T hT=>?_)
 obtain⟨V,hch⟩:=hT
 refine (stk_arm hch.st.stk N K m hN).mono ?_
 rintro e w' ⟨r,rfl,h1,k⟩
 exact ⟨r,rfl,T,⟨V,hch.turn k (stz_of h1) (fun x hx=>.inl hx) hch.sim hch.wf hch.gv hch.dd⟩,h1.lt,k,fun x hx=>.inl hx⟩
theorem lm_crash (h:LM w0 U (FS ff fb sb n d given E U) w M) (g2:Nat) (E2:List Nd) :
  Calls Tryz.prog 7 #[Ptr fb] w fun e w'=>e = .returned (I 0)∧LM w0 U (FD fb n d given E g2 E2) w' M∧w.heap.size≤w'.heap.size∧∃ T,(∀ x∈M,x∉T)∧Kept T w w':=by
 refine (h.turn (A:=Unit) (R:=fun _ e=>e = .returned (I 0)) (QA:=fun _=>FD fb n d given E g2 E2) (fun T hT=>?_)).mono ?_
 ·obtain⟨V,hch⟩:=hT
  have hsm:=hch.st.stk.small
  refine (stk_crash hch.st.stk).mono ?_
  rintro e w' ⟨rfl,T',h1,h2,k,h3⟩
  exact ⟨(),rfl,T',⟨V,V,⟨hch.st.sorted,hsm.2.2.1,hch.sim⟩,⟨hch.st.sorted,hsm.2.2.1,.inl hch.sim⟩,h1,hsm.1,hsm.2.1⟩,h2,k,h3⟩
 ·rintro e w' ⟨_,h1,h2⟩
  exact ⟨h1,h2⟩
theorem lm_rdf (h:LM w0 U (FS ff fb sb n d given E U) w M):RdF w ff given E:=by
 obtain⟨T,⟨V,h1⟩,_⟩:=h
 exact h1.rdf
theorem lm_fdead (h:LM w0 U (FS ff fb sb n d given E U) w M):Calls Tryz.prog 9 #[Ptr fb] w fun e w'=>e = .returned (.bool false)∧w'=w:=
 h.look (fun T ⟨V,hT⟩=>stk_fdead hT.st.stk)
theorem lm_dead (h:LM w0 U (FS ff fb sb n d given E U) w M):Calls Tryz.prog 10 #[Ptr ff] w fun e w'=>e = .returned (.bool false)∧w'=w:=
 h.look (fun T ⟨V,hT⟩=>fdead16_any hT.st.stk hT.cell)
theorem lm_gdead (h:LM w0 U (FD fb n d given E g2 E2) w M):Calls Tryz.prog 9 #[Ptr fb] w fun e w'=>e = .returned (.bool true)∧w'=w:=
 h.look (fun T ⟨V1,V2,_,_,hT,_⟩=>pf_fdead hT)
theorem lm_reopened (h:LM w0 U (FD fb n d given E g2 E2) w M) (hw1:WF given E) (hw2:WF g2 E2) (hg1:given≤16777000) (hg2:g2≤16777000) (hd:d≤600000000) (kd on okp:Int) (pp pt ps:List UInt8) (mk:UInt8) :
  Calls Tryz.prog 12 #[Ptr fb,.agg #[I kd,I okp,I on,S pp,S pt,S ps,B mk]] w fun e w'=>∃ (ff' sb':Nat) (b:Bool),e = .returned (Ptr ff')∧LM w0 (ff'::U) (FS ff' fb sb' n d (if b then given else g2) (if b then E else E2) (ff'::U)) w' M∧w.heap.size≤w'.heap.size∧∃ T,(∀ x∈M,x∉T)∧Kept T w w':=by
 obtain⟨T,hfd,h2,h3,h4,h5,h6⟩:=h
 obtain⟨V1,V2,a1,a2,hpf,h8,hn⟩:=hfd
 obtain⟨bb,cb,g,rfl,hfl,hgd⟩:=hpf
 have hb:=h3.2.1
 have hz:=h6.size
 refine (reopened16_any w fb bb cb n g V1 V2 d hfl h8 hn a1.1 a2.1 a1.2.1 a2.2.1 (by omega) kd on okp pp pt ps mk).mono ?_
 rintro e w' ⟨ff',sb',T',V,rfl,hV,hst,k,hfr,hcell,hf1,hf2,hf3⟩
 have hT'U:∀ x∈T',x∉ff'::U:=fun x hx hm=>by
  rcases List.mem_cons.1 hm with rfl | hm
  ·exact hf3 hx
  ·rcases hfr x hx with h7 | h7
   ·exact h4 x h7 hm
   ·have:=hb x hm;omega
 have htab:=(h3.kept k h4).cons hf2
 have hsimV:∃ b:Bool,SimV V (if b then given else g2) (if b then E else E2):=by
  rcases hV with rfl | rfl
  ·exact ⟨true,a1.2.2⟩
  ·rcases a2.2.2 with h7 | h7
   ·exact ⟨true,h7⟩
   ·exact ⟨false,h7⟩
 obtain⟨b,hsimV⟩:=hsimV
 refine ⟨ff',sb',b,rfl,⟨T',⟨V,stz_of hst,hcell,hsimV,?_,?_,htab,List.mem_cons_self,hT'U,hd⟩,fun x hx=>⟨?_,hst.lt x hx⟩,htab,hT'U,fun x hx=>⟨fun hm=>?_,fun hm=>?_,Nat.lt_of_lt_of_le (h5 x hx).2.2.1 k.size,(h5 x hx).2.2.2⟩,h6.new k (fun x hx=>(h2 x hx).1)⟩,k.size,_,fun x hx=>(h5 x hx).1,k⟩
 ·cases b
  ·exact hw2
  ·exact hw1
 ·cases b
  ·exact hg2
  ·exact hg1
 ·rcases hfr x hx with h7 | h7
  ·exact (h2 x h7).1
  ·omega
 ·rcases hfr x hm with h7 | h7
  ·exact (h5 x hx).1 h7
  ·have:=(h5 x hx).2.2.1;omega
 ·rcases List.mem_cons.1 hm with rfl | hm
  ·have:=(h5 _ hx).2.2.1;omega
  ·exact (h5 x hx).2.1 hm
theorem lm_same {g':Nat} {E':List Nd} (h:LM w0 U (FS ff fb sb n d g' E' U) w M) (he:∀ k,objF g' E' k=objF given E k) (hw:WF given E) (hg:given≤16777000):LM w0 U (FS ff fb sb n d given E U) w M:=by
 refine h.imp (fun T hT=>?_)
 obtain⟨V,h1⟩:=hT
 exact ⟨V,h1.st,h1.cell,fun k=>(h1.sim k).trans (he k),hw,hg,h1.tabs,h1.ffU,h1.sep,h1.dd⟩
end
end Go.Proofs.YteplbljjlbdhaacGreatDoor
