/- Walks and lemmas on the program of this seat, used by its statements; each theorem bears its own conditions. -/
import Derived.Test.YteplbljjlbdhaacGreatDoorY47
namespace Go.Proofs.YteplbljjlbdhaacGreatDoor
open Go.RowKit
set_option linter.unusedVariables false
set_option linter.unusedSimpArgs false
set_option linter.unusedSectionVars false
set_option maxHeartbeats 16000000
set_option maxRecDepth 100000
section
variable {given:Nat} {E:List Nd}
theorem pre_mem (h:WF given E) {x:Nd} (hx:x∈E):∀ j,j<x.path.length→∃ y∈E,y.path=x.path.take (x.path.length-j)∧(0<j→y.dir=true)
 | 0,_=>⟨x,hx,by rw[Nat.sub_zero,List.take_length],fun h=>absurd h (by omega)⟩
 | j+1,hj=>by
  obtain⟨y,hy,hp,_⟩:=pre_mem h hx j (by omega)
  have hl:y.path.length=x.path.length-j:=by rw[hp,List.length_take];omega
  have hd:y.path.dropLast=x.path.take (x.path.length-(j+1)):=by
   rw[List.dropLast_eq_take,hl,hp,List.take_take]
   congr 1
   omega
  rcases h.up y hy with h0 | ⟨z,hz,h1,h2⟩
  ·have:=congrArg List.length h0
   rw[List.length_dropLast,hl] at this
   simp at this
   omega
  ·exact ⟨z,hz,by rw[h1,hd],fun _=>h2⟩
theorem findF_ok (E:List Nd):∀ (r so:List Nm),(∀ k,k<r.length→isDirP E (so++r.take k)=true∧(ent E (so++r.take (k+1))).isSome=true)→findF E so r=0
 | [],so,_=>rfl
 | n::r,so,h=>by
  obtain⟨h1,h2⟩:=h 0 (by simp)
  rw[List.take_zero,List.append_nil] at h1
  have h2:(ent E (so++[n])).isSome=true:=by simpa using h2
  rw[findF_snoc_ok h1 h2]
  refine findF_ok E r (so++[n]) fun k hk=>?_
  obtain⟨a,b⟩:=h (k+1) (by simp;omega)
  rw[List.append_assoc,List.append_assoc]
  exact ⟨by simpa using a,by simpa using b⟩
theorem find_in (h:WF given E) {x:Nd} (hx:x∈E):findF E [] x.path=0:=by
 refine findF_ok E x.path [] fun k hk=>?_
 rw[List.nil_append,List.nil_append]
 have key:∀ m,m<x.path.length→0<m→∃ y∈E,y.path=x.path.take m∧y.dir=true:=fun m hm h0=>by
  obtain⟨y,hy,h1,h2⟩:=pre_mem h hx (x.path.length-m) (by omega)
  exact ⟨y,hy,by rw[h1];congr 1;omega,h2 (by omega)⟩
 constructor
 ·rcases Nat.eq_zero_or_pos k with rfl | h0
  ·rfl
  ·obtain⟨y,hy,h1,h2⟩:=key k hk h0
   rw[← h1,isDirP_of h (ent_of h.paths hy)]
   exact h2
 ·rcases Nat.lt_or_ge (k+1) x.path.length with h1 | h1
  ·obtain⟨y,hy,h2,_⟩:=key (k+1) h1 (by omega)
   rw[← h2,ent_of h.paths hy]
   rfl
  ·rw[List.take_of_length_le h1,ent_of h.paths hx]
   rfl
theorem dirF_in (h:WF given E) {x:Nd} (hx:x∈E):dirF E (pathT x.path)=(0,x.dir):=by
 unfold dirF
 rw[path_T (h.pv hx)]
 simp only
 rw[find_in h hx,if_neg (by simp),isDirP_of h (ent_of h.paths hx)]
theorem listF_in (h:WF given E) {x:Nd} (hx:x∈E) (hd:x.dir=true):listF E (pathT x.path)=(0,(kids E x.path).map (·.1)):=by
 unfold listF
 rw[path_T (h.pv hx)]
 simp only
 rw[find_in h hx,if_neg (by simp),isDirP_of h (ent_of h.paths hx),if_pos hd]
theorem fileF_in (h:WF given E) {x:Nd} (hx:x∈E) (hd:x.dir=false):fileF E (pathT x.path)=(0,x):=by
 unfold fileF
 rw[path_T (h.pv hx)]
 simp only
 rw[find_in h hx,if_neg (by simp),isDirP_of h (ent_of h.paths hx),if_neg (by rw[hd];decide),ent_of h.paths hx]
theorem readF_in (h:WF given E) {x:Nd} (hx:x∈E) (hd:x.dir=false):readF E (pathT x.path) 0 5000=(x.data,0):=by
 unfold readF
 rw[fileF_in h hx hd]
 simp only
 have:=(h.data x hx).1
 rw[if_neg (by simp),if_neg (by omega)]
 show ((x.data.drop 0).take 5000,(0:Int))=(x.data,0)
 rw[List.drop_zero,List.take_of_length_le (by omega)]
theorem listF_root (E:List Nd):listF E [47]=(0,(kids E []).map (·.1)):=by
 unfold listF
 rw[show WX.pathF [47]=some [] by kernel_rfl]
 rfl
end
def RdF (w:World) (ff given:Nat) (E:List Nd):Prop:=(∃ sb V,FR w ff sb V given E)∧Tabs w
section
variable {w:World} {ff given:Nat} {E:List Nd}
theorem RdF.same {w':World} (h:RdF w ff given E) (k:Kept [] w w'):RdF w' ff given E:=by
 obtain⟨⟨sb,V,h1⟩,h2⟩:=h
 exact ⟨⟨sb,V,h1.same k⟩,h2.kept k⟩
theorem RdF.wf (h:RdF w ff given E):WF given E:=by obtain⟨⟨sb,V,h1⟩,h2⟩:=h;exact h1.wf
theorem Lf.rdf {w0:World} {fb sb n d:Nat} {M:List Nat} (h:Lf w0 w ff fb sb n d given E M):RdF w ff given E:=by
 obtain⟨⟨V,h1⟩,h2⟩:=h.fr
 exact ⟨⟨sb,V,h1⟩,h2⟩
theorem CH.rdf {fb sb n d:Nat} {V:OM} {T U:List Nat} {z:Bool} (h:CH w ff fb sb n V d T z given E U):RdF w ff given E:=⟨⟨sb,V,h.fr⟩,h.tabs.1⟩
theorem rf_weight (h:RdF w ff given E):Calls Tryz.prog 33 #[Ptr ff] w fun e w'=>e = .returned (I (wL (objL given E):Nat))∧w'=w:=by
 obtain⟨⟨sb,V,h1⟩,h2⟩:=h
 exact fweight_any h1
theorem rf_list (h:RdF w ff given E) (s:List UInt8) (hs:s.length<4294967281) :
  Calls Tryz.prog 30 #[Ptr ff,S s] w fun e w'=>(∃ lv,e = .returned (.tuple #[lv,I (listF E s).1])∧StrsAt w' lv (listF E s).2∧∀ q,lv.ownBlock=some q→w.heap.size≤q∧q<w'.heap.size)∧Kept [] w w':=by
 obtain⟨⟨sb,V,h1⟩,hT⟩:=h
 exact flistN_any w ff sb V given E h1 hT s hs
theorem rf_read (h:RdF w ff given E) (s:List UInt8) (hs:s.length<4294967281) (a m:Int) (ha:I64 a) (hm:I64 m) :
  Calls Tryz.prog 36 #[Ptr ff,S s,I a,I m] w fun e w'=>e = .returned (.tuple #[S (readF E s a m).1,I (readF E s a m).2])∧Kept [] w w':=by
 obtain⟨⟨sb,V,h1⟩,hT⟩:=h
 exact ffread_any w ff sb V given E h1 hT s hs a m ha hm
theorem rf_size (h:RdF w ff given E) (s:List UInt8) (hs:s.length<4294967281) :
  Calls Tryz.prog 37 #[Ptr ff,S s] w fun e w'=>e = .returned (.tuple #[I (fileF E s).2.data.length,I (fileF E s).1])∧Kept [] w w':=by
 obtain⟨⟨sb,V,h1⟩,hT⟩:=h
 exact fsize_any w ff sb V given E h1 hT s hs
theorem rf_dir (h:RdF w ff given E) (s:List UInt8) (hs:s.length<4294967281) :
  Calls Tryz.prog 35 #[Ptr ff,S s] w fun e w'=>e = .returned (.tuple #[.bool (dirF E s).2,I (dirF E s).1])∧Kept [] w w':=by
 obtain⟨⟨sb,V,h1⟩,hT⟩:=h
 exact fdir_any w ff sb V given E h1 hT s hs
end
def chk16 (E1 E2:List Nd) (x:Nd):Bool:=
 decide (dirF E1 (pathT x.path)=(0,x.dir))&&(if x.dir then decide (listF E1 (pathT x.path)=(0,(kids E2 x.path).map (·.1))) else decide (readF E1 (pathT x.path) 0 5000=(x.data,0)))
def holdsF (g1:Nat) (E1:List Nd) (g2:Nat) (E2:List Nd):Bool:=
 decide ((kids E1 []).map (·.1)=(kids E2 []).map (·.1))&&(decide (wL (objL g1 E1)=wL (objL g2 E2))&&E2.all (chk16 E1 E2))
section
variable {g1 g2:Nat} {E1 E2:List Nd}
theorem holdsF_names (h:¬ (kids E1 []).map (·.1)=(kids E2 []).map (·.1)):holdsF g1 E1 g2 E2=false:=by
 unfold holdsF
 rw[decide_eq_false h,Bool.false_and]
theorem holdsF_weight (h:¬ wL (objL g1 E1)=wL (objL g2 E2)):holdsF g1 E1 g2 E2=false:=by
 unfold holdsF
 rw[decide_eq_false h,Bool.false_and,Bool.and_false]
theorem holdsF_node {x:Nd} (hx:x∈E2) (h:chk16 E1 E2 x=false):holdsF g1 E1 g2 E2=false:=by
 unfold holdsF
 have:E2.all (chk16 E1 E2)=false:=by
  cases hc:E2.all (chk16 E1 E2) with
  | false=>rfl
  | true=>rw[List.all_eq_true.1 hc x hx] at h;cases h
 rw[this,Bool.and_false,Bool.and_false]
theorem holdsF_true (h1:(kids E1 []).map (·.1)=(kids E2 []).map (·.1)) (h2:wL (objL g1 E1)=wL (objL g2 E2)) (h3:∀ x∈E2,chk16 E1 E2 x=true):holdsF g1 E1 g2 E2=true:=by
 unfold holdsF
 rw[decide_eq_true h1,decide_eq_true h2,List.all_eq_true.2 h3]
 rfl
theorem chk16_dir {x:Nd} (h:¬ dirF E1 (pathT x.path)=(0,x.dir)):chk16 E1 E2 x=false:=by
 unfold chk16
 rw[decide_eq_false h,Bool.false_and]
theorem chk16_list {x:Nd} (hd:x.dir=true) (h:¬ listF E1 (pathT x.path)=(0,(kids E2 x.path).map (·.1))):chk16 E1 E2 x=false:=by
 unfold chk16
 rw[hd,if_pos rfl,decide_eq_false h,Bool.and_false]
theorem chk16_read {x:Nd} (hd:x.dir=false) (h:¬ readF E1 (pathT x.path) 0 5000=(x.data,0)):chk16 E1 E2 x=false:=by
 unfold chk16
 rw[hd,if_neg (by decide),decide_eq_false h,Bool.and_false]
theorem chk16_yes_dir {x:Nd} (h0:dirF E1 (pathT x.path)=(0,x.dir)) (hd:x.dir=true) (h:listF E1 (pathT x.path)=(0,(kids E2 x.path).map (·.1))):chk16 E1 E2 x=true:=by
 unfold chk16
 rw[decide_eq_true h0,hd,if_pos rfl,decide_eq_true h]
 rfl
theorem chk16_yes_file {x:Nd} (h0:dirF E1 (pathT x.path)=(0,x.dir)) (hd:x.dir=false) (h:readF E1 (pathT x.path) 0 5000=(x.data,0)):chk16 E1 E2 x=true:=by
 unfold chk16
 rw[decide_eq_true h0,hd,if_neg (by decide),decide_eq_true h]
 rfl
theorem read_file {g:Nat} (hw:WF g E1) {s d:List UInt8} (h:readF E1 s 0 5000=(d,0)):(fileF E1 s).1=0∧(fileF E1 s).2.data.length=d.length:=by
 unfold readF at h
 split at h
 ·next h0=>exact absurd (congrArg Prod.snd h) h0
 next h0 =>
 have h0:(fileF E1 s).1=0:=by simpa using h0
 split at h
 ·exact absurd (congrArg Prod.snd h) (by show ¬ (165:Int)=0;decide)
 ·obtain⟨p,hp,hf0,hxd,hxe,hxE⟩:=file_mem (E:=E1) (s:=s) h0
  have h4:=(hw.data _ hxE).1
  have e:=congrArg Prod.fst h
  replace e:((fileF E1 s).2.data.drop 0).take 5000=d:=e
  rw[List.drop_zero,List.take_of_length_le (by omega)] at e
  exact ⟨h0,by rw[e]⟩
end
theorem rholds_any {ff n given given2:Nat} {E E2:List Nd} {mb:Nat} {v:Value} (w:World) (h:RdF w ff given E) (hD1:DF w mb n given2 v E2) :
  Calls Tryz.prog 11 #[Ptr ff,Ptr mb] w fun e w'=>e = .returned (.bool (holdsF given E given2 E2))∧Kept [] w w':=by
 have hfew:=hD1.few
 have hEI:(E2.length:Int)≤900:=by omega
 have hgv:=hD1.gv
 have HLR:=Lib.hid (rf_list h [47] (by decide))
 rw[listF_root] at HLR
 have HNR:=Lib.hid (fun W (k:Kept [] w W)=>rnames_any W mb n given2 given2 v E2 (hD1.at'.same k) (by omega) hD1.wf [] PV.nil)
 rw[show pathT ([]:List Nm)=[47] from rfl] at HNR
 have HWC:=Lib.hid (fun W (k:Kept [] w W)=>rf_weight (h.same k))
 have HWD:=Lib.hid (fun W (k:Kept [] w W)=>rweightE_any W mb n given2 given2 v E2 (hD1.at'.same k) (by omega) (by omega) hD1.wf)
 have HFN:=Lib.hid (holdsF_names (g1:=given) (g2:=given2) (E1:=E) (E2:=E2))
 have HFW:=Lib.hid (holdsF_weight (g1:=given) (g2:=given2) (E1:=E) (E2:=E2))
 have HFX:=Lib.hid (fun x (hx:x∈E2)=>holdsF_node (g1:=given) (g2:=given2) (E1:=E) hx)
 have HFT:=Lib.hid (holdsF_true (g1:=given) (g2:=given2) (E1:=E) (E2:=E2))
 obtain⟨b,hb⟩:∃ b,holdsF given E given2 E2=b:=⟨_,rfl⟩
 rw[hb] at HFN HFW HFX HFT ⊢
 clear hb
 obtain⟨wt,hwt⟩:∃ wt,wL (objL given E)=wt:=⟨_,rfl⟩
 obtain⟨wt2,hwt2⟩:∃ wt,wL (objL given2 E2)=wt:=⟨_,rfl⟩
 rw[hwt] at HWC HFW HFT
 rw[hwt2] at HWD HFW HFT
 obtain⟨k1,hk1⟩:∃ k,(kids E []).map (·.1)=k:=⟨_,rfl⟩
 obtain⟨k2,hk2⟩:∃ k,(kids E2 []).map (·.1)=k:=⟨_,rfl⟩
 rw[hk1] at HLR HFN HFT
 rw[hk2] at HNR HFN HFT
 obtain⟨c0,c1,c2⟩:=hD1.at'.cells
 have H:=Lib.hid (And.intro h hD1)
 obtain⟨lp,lc,lb,rfl,hlc,hlp,hcells⟩:=hD1.at'.2
 have HC:=Lib.hid (And.intro hlp hcells)
 clear h hD1 hlp hcells hwt hwt2 hgv hk1 hk2
 go_enter Tryz.func11,Tryz.ntmps11
 go_wp2_with (fail)
 refine HLR.out.mono ?_
 rintro e w1 ⟨⟨lv,rfl,hst,hq⟩,kk1⟩
 have HST:=Lib.hid hst
 have K1:=Lib.hid kk1
 clear hst kk1 hq HLR
 go_wp2_with (fail)
 refine (HNR.out _ K1.out).mono ?_
 rintro e w2 ⟨⟨lv2,rfl,hst2⟩,kk2⟩
 have HSM:=Lib.hid (fun b hb=>same_at lv lv2 _ _ b w2 hb (HST.out.kept kk2) hst2)
 have K2:=Lib.hid (K1.out.trans' kk2)
 clear hst2 kk2 HNR HST K1
 by_cases hn:k1=k2
 rotate_left
 ·have HB:=Lib.hid (HFN.out hn)
  have HSM1:=Lib.hid (HSM.out false (decide_eq_false hn))
  clear hn HSM
  go_wp2_with (fail)
  refine HSM1.out.mono ?_
  rintro e w3 ⟨rfl,k3⟩
  have K3:=Lib.hid (K2.out.trans' k3)
  clear k3 HSM1 K2
  go_wp2_with (fail)
  go_ret
  exact ⟨by rw[HB.out];rfl,K3.out⟩
 have HSM1:=Lib.hid (HSM.out true (decide_eq_true hn))
 have HFT1:=Lib.hid (HFT.out hn)
 clear hn HSM HFT HFN
 go_wp2_with (fail)
 refine HSM1.out.mono ?_
 rintro e w3 ⟨rfl,k3⟩
 have K3:=Lib.hid (K2.out.trans' k3)
 clear k3 HSM1 K2
 go_wp2_with (fail)
 refine (HWC.out _ K3.out).mono ?_
 rintro e w4 ⟨rfl,rfl⟩
 go_wp2_with (fail)
 refine (HWD.out _ K3.out).mono ?_
 rintro e w5 ⟨rfl,k5⟩
 have K5:=Lib.hid (K3.out.trans' k5)
 clear k5 HWC HWD K3
 by_cases hw:wt=wt2
 rotate_left
 ·have HB:=Lib.hid (HFW.out hw)
  have hwb:((wt:Int) != (wt2:Int))=true:=by simp;omega
  clear hw
  go_wp2_with (fail)
  go_ret
  exact ⟨by rw[HB.out];rfl,K5.out⟩
 have HFT2:=Lib.hid (HFT1.out hw)
 clear HFT1 HFW
 subst hw
 go_wp2_with (fail)
 go_loopw [7] (fun v7 wr=>∃ i:Nat,v7=I i∧i≤E2.length∧(∀ j (hj:j<E2.length),j<i→chk16 E E2 E2[j]=true)∧Kept [] w wr) (fun v7 _=>E2.length-(intOf v7).toNat)
 case atStart=>exact ⟨0,rfl,by omega,fun j _ hj=>absurd hj (by omega),K5.out⟩
 case round =>
  obtain⟨i,rfl,hi,hall,hk⟩:=hrel
  have m2:=hk.cellOf c2
  have KR:=Lib.hid hk
  have HAL:=Lib.hid hall
  clear hall
  by_cases hlt:i<E2.length
  ·have hltI:(i:Int)<E2.length:=by omega
   have hpe:=HC.out.1 (by intro h;rw[h] at hlt;simp at hlt)
   subst hpe
   obtain⟨d0,d1,d2⟩:=HC.out.2 i hlt
   have e0:=hk.cellOf d0
   have e1:=hk.cellOf d1
   have e2:=hk.cellOf d2
   have hxE:E2[i]∈E2:=List.getElem_mem hlt
   have HALN:Hid (chk16 E E2 E2[i]=true→∀ j (hj:j<E2.length),j<i+1→chk16 E E2 E2[j]=true):=Lib.hid (fun hc j hj hji=>by
    by_cases hjl:j<i
    ·exact HAL.out j hj hjl
    ·have:j=i:=by omega
     subst this;exact hc)
   obtain⟨x,hx⟩:∃ x,E2[i]=x:=⟨_,rfl⟩
   rw[hx] at e0 e1 e2 hxE HALN
   have hwf:=H.out.2.wf
   have hpv:=hwf.pv hxE
   have hpl:=pathT_len hpv
   have HDI:=Lib.hid (fun W (k:Kept [] w W)=>rf_dir (H.out.1.same k) (pathT x.path) (by omega))
   have HX:=Lib.hid (And.intro hxE (And.intro hpv hpl))
   have HBX:=Lib.hid (HFX.out x hxE)
   have HCD:=Lib.hid (chk16_dir (E1:=E) (E2:=E2) (x:=x))
   have HCL:=Lib.hid (chk16_list (E1:=E) (E2:=E2) (x:=x))
   have HCR:=Lib.hid (chk16_read (E1:=E) (E2:=E2) (x:=x))
   have HYD:=Lib.hid (chk16_yes_dir (E1:=E) (E2:=E2) (x:=x))
   have HYF:=Lib.hid (chk16_yes_file (E1:=E) (E2:=E2) (x:=x))
   have HLI:=Lib.hid (fun W (k:Kept [] w W)=>rf_list (H.out.1.same k) (pathT x.path) (by have:=HX.out.2.2;omega))
   have HNI:=Lib.hid (fun W (k:Kept [] w W)=>rnames_any W mb n given2 given2 _ E2 (H.out.2.at'.same k) (by omega) H.out.2.wf x.path HX.out.2.1)
   have HRI:=Lib.hid (fun W (k:Kept [] w W)=>rf_read (H.out.1.same k) (pathT x.path) (by have:=HX.out.2.2;omega) 0 5000 ⟨by decide,by decide⟩ ⟨by decide,by decide⟩)
   have HSI:=Lib.hid (fun W (k:Kept [] w W)=>rf_size (H.out.1.same k) (pathT x.path) (by have:=HX.out.2.2;omega))
   have HRF:=Lib.hid (fun (d:List UInt8)=>read_file (E1:=E) H.out.1.wf (s:=pathT x.path) (d:=d))
   obtain⟨pt,hpt⟩:∃ pt,pathT x.path=pt:=⟨_,rfl⟩
   rw[hpt] at e0 HDI HLI HNI HRI HSI HCD HCL HCR HYD HYF HRF
   obtain⟨dt,hdt⟩:∃ dt,x.data=dt:=⟨_,rfl⟩
   rw[hdt] at e2 HCR HYF
   have hdl:dt.length≤4096:=by rw[← hdt];exact (hwf.data x hxE).1
   have hdlI:(dt.length:Int)≤4096:=by omega
   obtain⟨kx,hkx⟩:∃ k,(kids E2 x.path).map (·.1)=k:=⟨_,rfl⟩
   rw[hkx] at HNI HCL HYD
   obtain⟨xdir,hxdir⟩:∃ b,x.dir=b:=⟨_,rfl⟩
   rw[hxdir] at e1 HCD HCL HCR HYD HYF
   obtain⟨dr,hdr⟩:∃ r,dirF E pt=r:=⟨_,rfl⟩
   rw[hdr] at HDI HCD HYD HYF
   obtain⟨lr,hlr⟩:∃ r,listF E pt=r:=⟨_,rfl⟩
   rw[hlr] at HLI HCL HYD
   obtain⟨rr,hrr⟩:∃ r,readF E pt 0 5000=r:=⟨_,rfl⟩
   rw[hrr] at HRI HCR HYF HRF
   obtain⟨fr,hfr⟩:∃ r,fileF E pt=r:=⟨_,rfl⟩
   rw[hfr] at HSI HRF
   obtain⟨W2,hW2⟩:∃ W2,wr.alloc (.cells #[S pt,.bool xdir,S dt] 71)=W2:=⟨_,rfl⟩
   have hk2:=(Kept.refl [] wr).alloc (.cells #[S pt,.bool xdir,S dt] 71)
   have n2:=heap_new wr (.cells #[S pt,.bool xdir,S dt] 71)
   rw[hW2] at hk2 n2
   obtain⟨xb,hxb⟩:∃ xb,wr.heap.size=xb:=⟨_,rfl⟩
   rw[hxb] at n2
   have x0:=cell_at n2 0
   have x1:=cell_at n2 1
   have x2:=cell_at n2 2
   simp only[List.getElem?_toArray,List.getElem?_cons_zero,List.getElem?_cons_succ] at x0 x1 x2
   have KW:=Lib.hid (hk.trans' hk2)
   have HNW:=Lib.hid n2
   clear hk hk2 n2 hwf hpv hpl hxE hx d0 d1 d2 hpt hdt hkx hxdir hdr hlr hrr hfr HAL
   obtain⟨dr0,dr1⟩:=dr
   obtain⟨lr0,lr1⟩:=lr
   obtain⟨rr0,rr1⟩:=rr
   simp only at HDI HLI HRI
   go_wp2_with (simp only[hW2,hxb];done)
   refine (HDI.out _ KW.out).mono ?_
   rintro e w6 ⟨rfl,k6⟩
   have K6:=Lib.hid (KW.out.trans' k6)
   have n6:=k6.at HNW.out (by simp)
   have y0:=cell_at n6 0
   have y1:=cell_at n6 1
   simp only[List.getElem?_toArray,List.getElem?_cons_zero,List.getElem?_cons_succ] at y0 y1
   have N6:=Lib.hid n6
   clear k6 HDI n6 x0 x1 x2
   by_cases hd0:dr0=0
   rotate_left
   ·have HB:=Lib.hid (HBX.out (HCD.out (fun e=>hd0 (congrArg Prod.fst e))))
    have hdb:(dr0 != 0)=true:=by simpa using hd0
    clear hd0
    go_wp2_with (fail)
    go_ret
    exact ⟨by rw[HB.out];rfl,K6.out⟩
   subst hd0
   by_cases hd1:dr1=xdir
   rotate_left
   ·have HB:=Lib.hid (HBX.out (HCD.out (fun e=>hd1 (congrArg Prod.snd e))))
    have hdb:(dr1==xdir)=false:=by simpa using hd1
    clear hd1
    go_wp2_with (fail)
    go_ret
    exact ⟨by rw[HB.out];rfl,K6.out⟩
   subst hd1
   cases dr1 with
   | true =>
    have hlc:(lr0≠0∧b=false)∨(lr0=0∧lr1≠kx∧b=false)∨(lr0=0∧lr1=kx∧(∀ j (hj:j<E2.length),j<i+1→chk16 E E2 E2[j]=true)):=by
     by_cases hl0:lr0=0
     ·by_cases hl1:lr1=kx
      ·exact .inr (.inr ⟨hl0,hl1,HALN.out (HYD.out rfl rfl (by rw[hl0,hl1]))⟩)
      ·exact .inr (.inl ⟨hl0,hl1,HBX.out (HCL.out rfl (fun e=>hl1 (congrArg Prod.snd e)))⟩)
     ·exact .inl ⟨hl0,HBX.out (HCL.out rfl (fun e=>hl0 (congrArg Prod.fst e)))⟩
    clear HCD HCL HCR HYD HYF HALN HBX HRF HRI HSI
    rcases hlc with ⟨hl0,hbf⟩ | ⟨hl0,hl1,hbf⟩ | ⟨hl0,hl1,hall⟩
    ·have hdb:(lr0 != 0)=true:=by simpa using hl0
     have HB:=Lib.hid hbf
     clear hl0 hbf
     go_wp2_with (fail)
     refine (HLI.out _ K6.out).mono ?_
     rintro e w7 ⟨⟨lv3,rfl,hst,_⟩,k7⟩
     have K7:=Lib.hid (K6.out.trans' k7)
     have n7:=k7.at N6.out (by simp)
     have z0:=cell_at n7 0
     simp only[List.getElem?_toArray,List.getElem?_cons_zero,List.getElem?_cons_succ] at z0
     clear k7 HLI hst n7
     go_wp2_with (fail)
     go_ret
     exact ⟨by rw[HB.out];rfl,K7.out⟩
    ·subst hl0
     have HB:=Lib.hid (And.intro hbf (decide_eq_false hl1))
     clear hbf hl1
     go_wp2_with (fail)
     refine (HLI.out _ K6.out).mono ?_
     rintro e w7 ⟨⟨lv3,rfl,hst,_⟩,k7⟩
     have K7:=Lib.hid (K6.out.trans' k7)
     have HST:=Lib.hid hst
     have n7:=k7.at N6.out (by simp)
     have z0:=cell_at n7 0
     simp only[List.getElem?_toArray,List.getElem?_cons_zero,List.getElem?_cons_succ] at z0
     clear k7 HLI hst n7
     go_wp2_with (fail)
     refine (HNI.out _ K7.out).mono ?_
     rintro e w8 ⟨⟨lv4,rfl,hst2⟩,k8⟩
     have HSM:=Lib.hid (same_at lv3 lv4 _ _ false w8 HB.out.2 (HST.out.kept k8) hst2)
     have K8:=Lib.hid (K7.out.trans' k8)
     clear hst2 k8 HNI HST
     go_wp2_with (fail)
     refine HSM.out.mono ?_
     rintro e w9 ⟨rfl,k9⟩
     have K9:=Lib.hid (K8.out.trans' k9)
     clear k9 HSM
     go_wp2_with (fail)
     go_ret
     exact ⟨by rw[HB.out.1];rfl,K9.out⟩
    ·subst hl0
     subst hl1
     have HAN:=Lib.hid hall
     clear hall
     go_wp2_with (fail)
     refine (HLI.out _ K6.out).mono ?_
     rintro e w7 ⟨⟨lv3,rfl,hst,_⟩,k7⟩
     have K7:=Lib.hid (K6.out.trans' k7)
     have HST:=Lib.hid hst
     have n7:=k7.at N6.out (by simp)
     have z0:=cell_at n7 0
     simp only[List.getElem?_toArray,List.getElem?_cons_zero,List.getElem?_cons_succ] at z0
     clear k7 HLI hst n7
     go_wp2_with (fail)
     refine (HNI.out _ K7.out).mono ?_
     rintro e w8 ⟨⟨lv4,rfl,hst2⟩,k8⟩
     have HSM:=Lib.hid (same_at lv3 lv4 _ _ true w8 (by simp) (HST.out.kept k8) hst2)
     have K8:=Lib.hid (K7.out.trans' k8)
     clear hst2 k8 HNI HST
     go_wp2_with (fail)
     refine HSM.out.mono ?_
     rintro e w9 ⟨rfl,k9⟩
     have K9:=Lib.hid (K8.out.trans' k9)
     clear k9 HSM
     go_wp2_with (fail)
     go_roundw
     case rel=>exact ⟨i+1,by go_num,by omega,HAN.out,K9.out⟩
     case measure=>simp [intOf];omega
   | false =>
    have hrc:(rr1≠0∧b=false)∨(rr1=0∧rr0≠dt∧b=false)∨(rr1=0∧rr0=dt∧(fr.1=0∧fr.2.data.length=rr0.length)∧(∀ j (hj:j<E2.length),j<i+1→chk16 E E2 E2[j]=true)):=by
     by_cases hr1:rr1=0
     ·by_cases hr0:rr0=dt
      ·exact .inr (.inr ⟨hr1,hr0,HRF.out rr0 (by rw[hr1]),HALN.out (HYF.out rfl rfl (by rw[hr1,hr0]))⟩)
      ·exact .inr (.inl ⟨hr1,hr0,HBX.out (HCR.out rfl (fun e=>hr0 (congrArg Prod.fst e)))⟩)
     ·exact .inl ⟨hr1,HBX.out (HCR.out rfl (fun e=>hr1 (congrArg Prod.snd e)))⟩
    clear HCD HCL HCR HYD HYF HALN HBX HRF HLI HNI
    have HWALK:Hid (∀ (w7 w8:World),Kept [] w6 w7→Kept [] w7 w8→w7.cell? ⟨xb,0,none⟩=some (S pt)∧w8.cell? ⟨xb,2,none⟩=some (S dt)):=Lib.hid (fun w7 w8 k7 k8=>by
     have n7:=k7.at N6.out (by simp)
     have n8:=k8.at n7 (by simp)
     refine ⟨?_,?_⟩
     ·rw[cell_at n7];rfl
     ·rw[cell_at n8];rfl)
    rcases hrc with ⟨hr1,hbf⟩ | ⟨hr1,hr0,hbf⟩ | ⟨hr1,hr0,⟨hf0,hf1⟩,hall⟩
    ·have hdb:(rr1 != 0)=true:=by simpa using hr1
     have HB:=Lib.hid hbf
     clear hr1 hbf
     go_wp2_with (fail)
     refine (HRI.out _ K6.out).mono ?_
     rintro e w7 ⟨rfl,k7⟩
     have K7:=Lib.hid (And.intro k7 (K6.out.trans' k7))
     have z0:=(HWALK.out w7 w7 k7 (Kept.refl _ _)).1
     clear k7 HRI
     go_wp2_with (fail)
     refine (HSI.out _ K7.out.2).mono ?_
     rintro e w8 ⟨rfl,k8⟩
     have K8:=Lib.hid (K7.out.2.trans' k8)
     have q2:=(HWALK.out w7 w8 K7.out.1 k8).2
     clear k8 HSI
     go_wp2_with (fail)
     go_ret
     exact ⟨by rw[HB.out];rfl,K8.out⟩
    ·subst hr1
     have hdb:(rr0==dt)=false:=by simpa using hr0
     have HB:=Lib.hid hbf
     clear hr0 hbf
     go_wp2_with (fail)
     refine (HRI.out _ K6.out).mono ?_
     rintro e w7 ⟨rfl,k7⟩
     have K7:=Lib.hid (And.intro k7 (K6.out.trans' k7))
     have z0:=(HWALK.out w7 w7 k7 (Kept.refl _ _)).1
     clear k7 HRI
     go_wp2_with (fail)
     refine (HSI.out _ K7.out.2).mono ?_
     rintro e w8 ⟨rfl,k8⟩
     have K8:=Lib.hid (K7.out.2.trans' k8)
     have q2:=(HWALK.out w7 w8 K7.out.1 k8).2
     clear k8 HSI
     go_wp2_with (fail)
     go_ret
     exact ⟨by rw[HB.out];rfl,K8.out⟩
    ·subst hr1
     subst hr0
     have HAN:=Lib.hid hall
     clear hall
     obtain⟨fl,hfl⟩:∃ l,fr.2.data.length=l:=⟨_,rfl⟩
     rw[hfl] at hf1 HSI
     rw[hf0] at HSI
     subst hf1
     clear hf0 hfl
     go_wp2_with (fail)
     refine (HRI.out _ K6.out).mono ?_
     rintro e w7 ⟨rfl,k7⟩
     have K7:=Lib.hid (And.intro k7 (K6.out.trans' k7))
     have z0:=(HWALK.out w7 w7 k7 (Kept.refl _ _)).1
     clear k7 HRI
     go_wp2_with (fail)
     refine (HSI.out _ K7.out.2).mono ?_
     rintro e w8 ⟨rfl,k8⟩
     have K8:=Lib.hid (K7.out.2.trans' k8)
     have q2:=(HWALK.out w7 w8 K7.out.1 k8).2
     clear k8 HSI
     go_wp2_with (fail)
     go_roundw
     case rel=>exact ⟨i+1,by go_num,by omega,HAN.out,K8.out⟩
     case measure=>simp [intOf];omega
  ·have hltI:¬ (i:Int)<E2.length:=by omega
   have HB:=Lib.hid (HFT2.out (fun x hx=>by
    obtain⟨j,hj,rfl⟩:=List.getElem_of_mem hx
    exact HAL.out j hj (by omega)))
   clear hk
   go_wp2_with (fail)
   go_ret
   exact ⟨by rw[HB.out];rfl,KR.out⟩
theorem holdsF_self {given:Nat} {E:List Nd} (h:WF given E):holdsF given E given E=true:=by
 refine holdsF_true rfl rfl fun x hx=>?_
 cases hd:x.dir with
 | true=>exact chk16_yes_dir (dirF_in h hx) hd (listF_in h hx hd)
 | false=>exact chk16_yes_file (dirF_in h hx) hd (readF_in h hx hd)
end Go.Proofs.YteplbljjlbdhaacGreatDoor
